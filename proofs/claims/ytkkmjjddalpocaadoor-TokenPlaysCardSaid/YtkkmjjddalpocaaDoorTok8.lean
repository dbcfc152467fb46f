import Derived.Test.YtkkmjjddalpocaaDoorTok7
namespace Go.Proofs.YtkkmjjddalpocaaDoor
open Go.RowKit
set_option linter.unusedVariables false
set_option maxHeartbeats 2000000
/-! ### On of the program's side: what is done -/
def downEv (k a b : Int) : Ev := ⟨1, k, a, b, 0, ByteArray.empty⟩
def giveUp (s : TS) (a : Int) : TS × List Ev × Int := if a = 0 ∨ (bits .and .i64 s.mine a == a) = false then (s, [], 8) else (forgetN { s with mine := bits .andNot .i64 s.mine a, theirs := bits .or .i64 s.theirs a } (toks a), [downEv 2 a 0], 0)
def onSt (s : TS) (e : Ev) : TS × List Ev × Int :=
  if e.way = 1 then
    if e.kind = 1 then (urgeN s e.b (toks (bits .and .i64 e.a s.mine)), if bits .and .i64 e.a s.mine = 0 then [] else [toldEv 1 (bits .and .i64 e.a s.mine) e.b], 0)
    else (giveS s (bits .and .i64 e.a s.theirs), if bits .and .i64 e.a s.theirs = 0 then [] else [toldEv 2 (bits .and .i64 e.a s.theirs) 0], 0)
  else if e.kind = 1 then if (bits .and .i64 s.theirs e.a == e.a) = true then (s, [downEv 1 e.a e.b], 0) else (s, [], 8)
  else if e.kind = 2 then giveUp s e.a
  else giveUp s s.mine
def Good (s : TS) : Prop := s.made = true ∧ 0 ≤ s.mine ∧ s.mine ≤ 15 ∧ 0 ≤ s.theirs ∧ s.theirs ≤ 15
/-- What a call of On leaves. -/
def OnPost (b : Nat) (w : World) (R : TS × List Ev × Int) (r : Ending) (w' : World) : Prop := (∃ v, r = .returned (.tuple #[v, .int .i64 R.2.2]) ∧ EvRes w.heap.size w' v R.2.1) ∧ Pt w' b TSide R.1.cells ∧ Fr [b] w w'
theorem bits_and_nat (a b : Nat) (ha : a < 2 ^ 62) (hb : b < 2 ^ 62) : bits .and .i64 (a : Int) (b : Int) = ((a &&& b : Nat) : Int) :=
  (bits_nat .i64 62 (by decide) (fun n h0 h1 => by rw [IntKind.wrap_i64]; omega) a b ha hb).1
theorem and15 (a b : Int) (a0 : 0 ≤ a) (a1 : a ≤ 15) (b0 : 0 ≤ b) (b1 : b ≤ 15) : 0 ≤ bits .and .i64 a b ∧ bits .and .i64 a b ≤ 15 := by
  obtain ⟨x, rfl⟩ := Int.eq_ofNat_of_zero_le a0
  obtain ⟨y, rfl⟩ := Int.eq_ofNat_of_zero_le b0
  rw [bits_and_nat x y (by omega) (by omega)]
  have := @Nat.and_le_left x y
  omega
theorem self15 (a : Int) (h0 : 0 ≤ a) (h1 : a ≤ 15) : (bits .and .i64 a a == a) = true := all16 (p := fun a => bits .and .i64 a a == a) (by decide +kernel) a h0 h1
section
variable (b : Nat) (s : TS) (e : Ev) (w : World)
/-- The world behind the box of the event. -/
abbrev boxed (w : World) (e : Ev) : World := w.alloc (.cells #[.int .i64 e.way, .int .i64 e.kind, .int .i64 e.a, .int .i64 e.b, .int .i64 e.c, .string e.data] TEv)
theorem onNone (hp : Pt w b TSide s.cells) (hm : s.made = true) : Hid (Calls Tryd.prog 26 #[.pointer (some ⟨b, 0, none⟩)] (boxed w e) fun r w' => r = .returned (.bool false) ∧ boxed w e = w') := by
  have := tNone_any b s _ (hp.alloc (.cells #[.int .i64 e.way, .int .i64 e.kind, .int .i64 e.a, .int .i64 e.b, .int .i64 e.c, .string e.data] TEv))
  rw [hm] at this
  exact Lib.hid this
theorem EvRes.mono {B B' : Nat} {w : World} {v : Value} {l : List Ev} (h : EvRes B w v l) (hB : B' ≤ B) : EvRes B' w v l := by
  rcases h with h | ⟨C, e, h1, h2, h3, h4⟩
  · exact .inl h
  · exact .inr ⟨C, e, h1, h2, h3, by omega⟩
set_option maxRecDepth 100000 in
theorem on_down1 (hp : Pt w b TSide s.cells) (hT : Tab w) (hg : Good s) (hw : e.way = 1) (hk : e.kind = 1) (a0 : 0 ≤ e.a) (a1 : e.a ≤ 15) (b0 : 0 ≤ e.b) (b1 : e.b ≤ 9) :
    Calls Tryd.prog 13 #[.pointer (some ⟨b, 0, none⟩), e.val] w (OnPost b w (onSt s e)) := by
  have HN := onNone b s e w hp hg.1
  obtain ⟨r0, r1⟩ := and15 e.a s.mine a0 a1 hg.2.1 hg.2.2.1
  have hR : onSt s e = (urgeN s e.b (toks (bits .and .i64 e.a s.mine)), if bits .and .i64 e.a s.mine = 0 then [] else [toldEv 1 (bits .and .i64 e.a s.mine) e.b], 0) := by unfold onSt; rw [if_pos hw, if_pos hk]
  have HR := Lib.hid hR
  clear hR
  have HB := Lib.hid (below_please b s e (boxed w e) (hp.alloc _) (hT.fr ((Fr.refl [] w).alloc _) (by simp) hT.lt) hk _ rfl r0 r1)
  clear hp hT hg r0 r1
  obtain ⟨way, kind, ea, eb, ec, data⟩ := e
  dsimp only [Ev.val] at HR HN HB hw hk a0 a1 b0 b1 ⊢
  subst hw hk
  have hz : ea = 0 ∨ (ea == 0) = false := by by_cases h : ea = 0; exact .inl h; exact .inr (by simpa using h)
  rcases hz with rfl | hz1
  all_goals
    go_enter Tryd.func13, Tryd.ntmps13
    go_wp2_with fail
    refine HN.out.mono ?_
    rintro e w' ⟨rfl, rfl⟩
    go_wp2_with fail
    refine HB.out.mono ?_
    rintro r w1 ⟨⟨v, rfl, hv⟩, hq, hf⟩
    go_wp2
    go_ret2
    unfold OnPost
    rw [HR.out]
    exact ⟨⟨_, rfl, hv.mono (by simp)⟩, hq, ((Fr.refl [b] w).alloc _).trans hf⟩
set_option maxRecDepth 100000 in
theorem on_down2 (hp : Pt w b TSide s.cells) (hT : Tab w) (hg : Good s) (hw : e.way = 1) (hk : e.kind = 2) (a0 : 0 ≤ e.a) (a1 : e.a ≤ 15) :
    Calls Tryd.prog 13 #[.pointer (some ⟨b, 0, none⟩), e.val] w (OnPost b w (onSt s e)) := by
  have HN := onNone b s e w hp hg.1
  obtain ⟨r0, r1⟩ := and15 e.a s.theirs a0 a1 hg.2.2.2.1 hg.2.2.2.2
  have hR : onSt s e = (giveS s (bits .and .i64 e.a s.theirs), if bits .and .i64 e.a s.theirs = 0 then [] else [toldEv 2 (bits .and .i64 e.a s.theirs) 0], 0) := by unfold onSt; rw [if_pos hw, if_neg (by omega)]
  have HR := Lib.hid hR
  clear hR
  have HB := below_give b s e (boxed w e) (hp.alloc _) (hT.fr ((Fr.refl [] w).alloc _) (by simp) hT.lt) (by rw [hk]; rfl) _ rfl r0 r1
  rw [hk] at HB
  replace HB := Lib.hid HB
  clear hp hT hg r0 r1
  obtain ⟨way, kind, ea, eb, ec, data⟩ := e
  dsimp only [Ev.val] at HR HN HB hw hk a0 a1 ⊢
  subst hw hk
  have hz : ea = 0 ∨ (ea == 0) = false := by by_cases h : ea = 0; exact .inl h; exact .inr (by simpa using h)
  rcases hz with rfl | hz1
  all_goals
    go_enter Tryd.func13, Tryd.ntmps13
    go_wp2_with fail
    refine HN.out.mono ?_
    rintro e w' ⟨rfl, rfl⟩
    go_wp2_with fail
    refine HB.out.mono ?_
    rintro r w1 ⟨⟨v, rfl, hv⟩, hq, hf⟩
    go_wp2
    go_ret2
    unfold OnPost
    rw [HR.out]
    exact ⟨⟨_, rfl, hv.mono (by simp)⟩, hq, ((Fr.refl [b] w).alloc _).trans hf⟩
set_option maxRecDepth 100000 in
theorem on_please (hp : Pt w b TSide s.cells) (hg : Good s) (hw : e.way = 0) (hk : e.kind = 1) (a0 : 1 ≤ e.a) (a1 : e.a ≤ 15) (b0 : 0 ≤ e.b) (b1 : e.b ≤ 9) :
    Calls Tryd.prog 13 #[.pointer (some ⟨b, 0, none⟩), e.val] w (OnPost b w (onSt s e)) := by
  have HN := onNone b s e w hp hg.1
  have hR : onSt s e = if (bits .and .i64 s.theirs e.a == e.a) = true then (s, [downEv 1 e.a e.b], 0) else (s, [], 8) := by unfold onSt; rw [if_neg (by omega), if_pos hk]
  have HR := Lib.hid hR
  clear hR hg
  have HP := Lib.hid hp
  have hlt := hp.lt
  have hlt1 : b < w.heap.size + 1 := by omega
  obtain ⟨way, kind, ea, eb, ec, data⟩ := e
  obtain ⟨smade, smine, stheirs, s0, s1, s2, s3⟩ := s
  have hc := hp.cell
  simp only [TS.cells] at hc
  clear hp
  dsimp only [Ev.val] at HR HN hw hk a0 a1 b0 b1 ⊢
  subst hw hk
  rcases ht : (bits .and .i64 stheirs ea == ea) with _ | _
  · rw [ht, if_neg (by simp)] at HR
    go_enter Tryd.func13, Tryd.ntmps13
    go_wp2_with fail
    refine HN.out.mono ?_
    rintro e w' ⟨rfl, rfl⟩
    go_wp2_with (go_at_call 28; refine (tHas_any _ _ _).mono ?_; rintro e w' ⟨rfl, rfl⟩)
    go_ret2
    unfold OnPost
    rw [HR.out]
    exact ⟨⟨_, rfl, .inl ⟨rfl, rfl⟩⟩, HP.out.alloc _, (Fr.refl _ _).alloc _⟩
  · rw [ht, if_pos rfl] at HR
    go_enter Tryd.func13, Tryd.ntmps13
    go_wp2_with fail
    refine HN.out.mono ?_
    rintro e w' ⟨rfl, rfl⟩
    go_wp2_with (go_at_call 28; refine (tHas_any _ _ _).mono ?_; rintro e w' ⟨rfl, rfl⟩)
    go_ret2
    unfold OnPost
    rw [HR.out]
    exact ⟨⟨_, rfl, .inr ⟨_, downEv 1 ea eb, rfl, rfl, Pt.newAt _ _ _ (by simp), by simp⟩⟩, (HP.out.alloc _).alloc _, ((Fr.refl _ _).alloc _).alloc _⟩
/-- A side that gives away; c: the box of the event. -/
theorem give_gen (a : Int) (hp : Pt w b TSide s.cells) (hT : Tab w) (h0 : 0 ≤ a) (h1 : a ≤ 15) (c : Array Value) (W1 : World)
    (hp1 : Pt W1 b TSide (TS.cells { s with mine := bits .andNot .i64 s.mine a, theirs := bits .or .i64 s.theirs a })) (hf : Fr [b] w W1) (hbx : Pt W1 w.heap.size TEv c.toList) :
    Calls Tryd.prog 29 #[.pointer (some ⟨b, 0, none⟩), .int .i64 a] W1 fun e w' => e = .returned (.tuple #[]) ∧ Pt w' b TSide (forgetN { s with mine := bits .andNot .i64 s.mine a, theirs := bits .or .i64 s.theirs a } (toks a)).cells ∧ Fr [b] w w' ∧ Pt w' w.heap.size TEv c.toList ∧ w.heap.size + 1 ≤ w'.heap.size := by
  have hbne := hT.ne hp (by simp [TS.cells])
  have hlt := hp.lt
  refine (forget_any b { s with mine := bits .andNot .i64 s.mine a, theirs := bits .or .i64 s.theirs a } a _ hp1 (hT.fr hf (by simp; omega) hT.lt) h0 h1).mono ?_
  rintro e w' ⟨rfl, hq, hf'⟩
  have hs := hf'.size
  have hl := hbx.lt
  exact ⟨rfl, hq, hf.trans hf', hf'.pt hbx (by simp; omega), by omega⟩
theorem give_post (a : Int) (hp : Pt w b TSide s.cells) (hT : Tab w) (h0 : 0 ≤ a) (h1 : a ≤ 15) (c : Array Value) :
    Calls Tryd.prog 29 #[.pointer (some ⟨b, 0, none⟩), .int .i64 a] (((w.setCell ⟨b, 1, none⟩ (.int .i64 (bits .andNot .i64 s.mine a))).setCell ⟨b, 2, none⟩ (.int .i64 (bits .or .i64 s.theirs a))).alloc (.cells c TEv)) fun e w' => e = .returned (.tuple #[]) ∧ Pt w' b TSide (forgetN { s with mine := bits .andNot .i64 s.mine a, theirs := bits .or .i64 s.theirs a } (toks a)).cells ∧ Fr [b] w w' ∧ Pt w' w.heap.size TEv c.toList ∧ w.heap.size + 1 ≤ w'.heap.size :=
  give_gen b s w a hp hT h0 h1 c _ (((hp.set' rfl).set' rfl).alloc _) ((((Fr.refl [b] w).setCell (by simp) _).setCell (by simp) _).alloc _) (Pt.newAt _ _ _ (by simp))
theorem give_postD (a : Int) (hp : Pt w b TSide s.cells) (hT : Tab w) (h0 : 0 ≤ a) (h1 : a ≤ 15) (c : Array Value) :
    Calls Tryd.prog 29 #[.pointer (some ⟨b, 0, none⟩), .int .i64 a] (((w.setCell ⟨b, 1, none⟩ (.int .i64 (bits .andNot .i64 s.mine a))).setCell ⟨b, 2, none⟩ (.int .i64 (bits .or .i64 s.theirs a))).alloc (.cells c TEv)).drew fun e w' => e = .returned (.tuple #[]) ∧ Pt w' b TSide (forgetN { s with mine := bits .andNot .i64 s.mine a, theirs := bits .or .i64 s.theirs a } (toks a)).cells ∧ Fr [b] w w' ∧ Pt w' w.heap.size TEv c.toList ∧ w.heap.size + 1 ≤ w'.heap.size :=
  give_gen b s w a hp hT h0 h1 c _ (((hp.set' rfl).set' rfl).alloc _).drew ((((Fr.refl [b] w).setCell (by simp) _).setCell (by simp) _).alloc _).drew (Pt.newAt _ _ _ (by simp)).drew
set_option maxRecDepth 100000 in
theorem on_give (hp : Pt w b TSide s.cells) (hT : Tab w) (hg : Good s) (hw : e.way = 0) (hk : e.kind = 2) (a0 : 1 ≤ e.a) (a1 : e.a ≤ 15) :
    Calls Tryd.prog 13 #[.pointer (some ⟨b, 0, none⟩), e.val] w (OnPost b w (onSt s e)) := by
  have HN := onNone b s e w hp hg.1
  have hR : onSt s e = giveUp s e.a := by unfold onSt; rw [if_neg (by omega), if_neg (by omega), if_pos hk]
  have HR := Lib.hid hR
  clear hR hg
  have HP := Lib.hid hp
  have HG := Lib.hid (give_post b s w e.a hp hT (by omega) a1 #[.int .i64 e.way, .int .i64 e.kind, .int .i64 e.a, .int .i64 e.b, .int .i64 e.c, .string e.data])
  have hlt := hp.lt
  have hlt1 : b < w.heap.size + 1 := by omega
  obtain ⟨way, kind, ea, eb, ec, data⟩ := e
  obtain ⟨smade, smine, stheirs, s0, s1, s2, s3⟩ := s
  have hc := hp.cell
  have hz := hp.free
  simp only [TS.cells] at hc
  clear hp
  dsimp only [Ev.val] at HR HN HG hw hk a0 a1 ⊢
  subst hw hk
  have hz1 : (ea == 0) = false := by simp; omega
  rcases ht : (bits .and .i64 smine ea == ea) with _ | _
  · have hR : giveUp ⟨smade, smine, stheirs, s0, s1, s2, s3⟩ ea = (⟨smade, smine, stheirs, s0, s1, s2, s3⟩, [], 8) := by unfold giveUp; rw [if_pos (.inr ht)]
    rw [hR] at HR
    clear hR
    go_enter Tryd.func13, Tryd.ntmps13
    go_wp2_with fail
    refine HN.out.mono ?_
    rintro e w' ⟨rfl, rfl⟩
    go_wp2_with (go_at_call 28; refine (tHas_any _ _ _).mono ?_; rintro e w' ⟨rfl, rfl⟩)
    go_ret2
    unfold OnPost
    rw [HR.out]
    exact ⟨⟨_, rfl, .inl ⟨rfl, rfl⟩⟩, HP.out.alloc _, (Fr.refl _ _).alloc _⟩
  · have hR : giveUp ⟨smade, smine, stheirs, s0, s1, s2, s3⟩ ea = (forgetN ⟨smade, bits .andNot .i64 smine ea, bits .or .i64 stheirs ea, s0, s1, s2, s3⟩ (toks ea), [downEv 2 ea 0], 0) := by unfold giveUp; rw [if_neg (by rw [ht]; simp; omega)]
    rw [hR] at HR
    clear hR
    go_enter Tryd.func13, Tryd.ntmps13
    go_wp2_with fail
    refine HN.out.mono ?_
    rintro e w' ⟨rfl, rfl⟩
    go_wp2_with fail
    refine (tHas_any smine ea _).mono ?_
    rintro e w' ⟨rfl, rfl⟩
    rw [ht]
    go_wp2_with fail
    refine HG.out.mono ?_
    rintro e w1 ⟨rfl, hq, hf, hbx, hsz⟩
    clear hc hz
    have cx := hbx.cell
    go_wp2
    go_ret2
    unfold OnPost
    rw [HR.out]
    exact ⟨⟨_, rfl, .inr ⟨_, downEv 2 ea 0, rfl, rfl, Pt.newA _ _ _, by omega⟩⟩, hq.alloc _, hf.alloc _⟩
set_option maxRecDepth 100000 in
theorem on_all (hp : Pt w b TSide s.cells) (hT : Tab w) (hg : Good s) (hw : e.way = 0) (hk : e.kind = 3) :
    Calls Tryd.prog 13 #[.pointer (some ⟨b, 0, none⟩), e.val] w (OnPost b w (onSt s e)) := by
  have HN := onNone b s e w hp hg.1
  have hR : onSt s e = giveUp s s.mine := by unfold onSt; rw [if_neg (by omega), if_neg (by omega), if_neg (by omega)]
  have HR := Lib.hid hR
  clear hR
  obtain ⟨_, m0, m1, _⟩ := hg
  have HP := Lib.hid hp
  have HG := Lib.hid (give_postD b s w s.mine hp hT m0 m1 #[.int .i64 e.way, .int .i64 2, .int .i64 s.mine, .int .i64 0, .int .i64 e.c, .string e.data])
  have hlt := hp.lt
  have hlt1 : b < w.heap.size + 1 := by omega
  obtain ⟨way, kind, ea, eb, ec, data⟩ := e
  obtain ⟨smade, smine, stheirs, s0, s1, s2, s3⟩ := s
  have hc := hp.cell
  have hz := hp.free
  simp only [TS.cells] at hc
  clear hp
  dsimp only [Ev.val] at HR HN HG hw hk m0 m1 ⊢
  subst hw hk
  go_enter Tryd.func13, Tryd.ntmps13
  go_wp2_with fail
  refine HN.out.mono ?_
  rintro e w' ⟨rfl, rfl⟩
  go_wp2_with fail
  have hself : (bits .and .i64 smine smine == smine) = true := self15 smine m0 m1
  by_cases h0 : smine = 0
  · have h00 : (smine == 0) = true := by simpa using h0
    have hR : giveUp ⟨smade, smine, stheirs, s0, s1, s2, s3⟩ smine = (⟨smade, smine, stheirs, s0, s1, s2, s3⟩, [], 8) := by unfold giveUp; rw [if_pos (.inl h0)]
    rw [hR] at HR
    clear h0 hR hself
    go_region
    go_wp2
    go_ret2
    unfold OnPost
    rw [HR.out]
    exact ⟨⟨_, rfl, .inl ⟨rfl, rfl⟩⟩, (HP.out.alloc _).drew, ((Fr.refl _ _).alloc _).drew⟩
  · have h00 : (smine == 0) = false := by simpa using h0
    have hR : giveUp ⟨smade, smine, stheirs, s0, s1, s2, s3⟩ smine = (forgetN ⟨smade, bits .andNot .i64 smine smine, bits .or .i64 stheirs smine, s0, s1, s2, s3⟩ (toks smine), [downEv 2 smine 0], 0) := by unfold giveUp; rw [if_neg (by rw [hself]; simpa using h0)]
    rw [hR] at HR
    clear h0 hR
    go_region
    go_wp2_with fail
    refine (tHas_any smine smine _).mono ?_
    rintro e w' ⟨rfl, rfl⟩
    rw [hself]
    go_wp2_with fail
    refine HG.out.mono ?_
    rintro e w1 ⟨rfl, hq, hf, hbx, hsz⟩
    clear hc hz
    have cx := hbx.cell
    go_wp2
    go_ret2
    unfold OnPost
    rw [HR.out]
    exact ⟨⟨_, rfl, .inr ⟨_, downEv 2 smine 0, rfl, rfl, Pt.newA _ _ _, by omega⟩⟩, hq.alloc _, hf.alloc _⟩
end
theorem on_any (b : Nat) (s : TS) (e : Ev) (w : World) (hp : Pt w b TSide s.cells) (hT : Tab w) (hg : Good s) :
    Calls Tryd.prog 13 #[.pointer (some ⟨b, 0, none⟩), e.val] w (OnPost b w (if onFine e then onSt s e else (s, [], 1))) := by
  by_cases h : onFine e = true
  · rw [if_pos h]
    unfold onFine at h
    split at h
    · rename_i hw
      split at h
      · rename_i hk
        simp only [Bool.and_eq_true, decide_eq_true_eq] at h
        exact on_please b s e w hp hg hw hk h.1.1.1 h.1.1.2 h.1.2 h.2
      · split at h
        · rename_i hk
          simp only [Bool.and_eq_true, decide_eq_true_eq] at h
          exact on_give b s e w hp hT hg hw hk h.1 h.2
        · exact on_all b s e w hp hT hg hw (by simpa using h)
    · split at h
      · rename_i hw
        split at h
        · rename_i hk
          simp only [Bool.and_eq_true, decide_eq_true_eq] at h
          exact on_down1 b s e w hp hT hg hw hk h.1.1.1 h.1.1.2 h.1.2 h.2
        · split at h
          · rename_i hk
            simp only [Bool.and_eq_true, decide_eq_true_eq] at h
            exact on_down2 b s e w hp hT hg hw hk h.1 h.2
          · cases h
      · cases h
  · rw [if_neg h]
    rw [Bool.not_eq_true] at h
    exact (on_bad b s e w hp hg.1 h).mono fun r w' ⟨h1, h2, h3⟩ => ⟨⟨_, h1, .inl ⟨rfl, rfl⟩⟩, h2, h3⟩
end Go.Proofs.YtkkmjjddalpocaaDoor
