import Derived.Test.YtnggimkkjdipmaaTU1
import Derived.Test.YtnggimkkjdipmaaTU3
import Derived.Test.YtnggimkkjdipmaaTU4
namespace Go.Proofs.Ytnggimkkjdipmaa
open Go.RowKit
set_option linter.unusedVariables false
set_option linter.unusedSimpArgs false
set_option maxHeartbeats 16000000
set_option maxRecDepth 100000
/-! ### whole -/
theorem eq_nilS (w : World) (a : Option Addr) (n c : Nat) : (binOp .eql 53 (.slice a n c) (.slice none 0 0)).run Try.prog w = .ok (.bool a.isNone) w := Lib.run_eql_slice_nil w _ _ a n c 0 0 uWds
theorem cloneS_any (b off c : Nat) (us : List Value) (w : World) (h : Row 1 w (.slice (some ⟨b, off, none⟩) us.length c) us.length us (some b)) (hn : us.length ≤ 2000000) (h1 : ∀ u ∈ us, u.oneCell' = true) :
    Calls Try.prog 96 #[.slice (some ⟨b, off, none⟩) us.length c] w fun e w' => ∃ v' bo, e = .returned v' ∧ Row 1 w' v' us.length us bo ∧ (∀ z, bo = some z → w.heap.size ≤ z) ∧ Fr [] w w' := by
  have f1 : Fr [] w (w.alloc (.cells #[] 25)) := (Fr.refl [] w).alloc _
  obtain ⟨o, c', e, hs⟩ := (h.fr f1 (by simp)).srcw
  cases e
  obtain ⟨v', w', bo, hrun, hr, hb, hf⟩ := (Row.nil 1 (w.alloc (.cells #[] 25)) (some ⟨w.heap.size, 0, none⟩)).appS (us := []) us (by simp; omega) _ c (fun j hj => by
    obtain ⟨b', off', e, _, hc⟩ := hs j hj
    exact ⟨b', off', e, hc⟩) h1
  have GF : Fr [] w w' := f1.trans (hf.mono (by simp))
  have GB : ∀ z, bo = some z → w.heap.size ≤ z := fun z hz => by
    rcases hb with e | e
    · rw [hz] at e; cases e
    · rw [hz] at e; cases e; exact f1.size
  obtain ⟨N, hN⟩ : ∃ N, us.length = N := ⟨_, rfl⟩
  rw [List.nil_append] at hr
  rw [hN] at hrun hr ⊢
  replace hrun := Lib.hid hrun; replace hr := Lib.hid hr; replace hb := Lib.hid hb; replace hf := Lib.hid hf; replace GF := Lib.hid GF; replace GB := Lib.hid GB; replace h := Lib.hid h; replace hs := Lib.hid hs; replace h1 := Lib.hid h1; replace hN := Lib.hid hN
  go_enter Try.func96, Try.ntmps96
  go_wp2_with fail
  rw [eq_nilS]
  go_wp2_with (first | (at_builtin; refine wpList_append_run _ rfl _ _ _ rfl rfl rfl hrun.out ?_))
  go_ret
  exact ⟨v', bo, rfl, hr.out, GB.out, GF.out⟩
/-- A word whose room is at least its length. -/
def CapV (p : Value × List Int) : Prop := ∃ o c, p.1 = .slice o p.2.length c ∧ p.2.length ≤ c
theorem NIn.take {w : World} {o : Option Addr} {n c c' : Nat} {l : List Int} (h : NIn w (.slice o n c) l) (k : Nat) (hk : k ≤ l.length) : NIn w (.slice o k c') (l.take k) := by
  obtain ⟨o', c2, e, hl⟩ := h
  cases e
  refine ⟨_, _, by rw [List.length_take]; congr 1; omega, fun i hi => ?_⟩
  have hi' : i < l.length := by rw [List.length_take] at hi; omega
  obtain ⟨b, off, e, hb, hc⟩ := hl i hi'
  exact ⟨b, off, e, hb, by rw [hc]; simp⟩
/-- whole's words so far. -/
structure WhI (w2 : World) (ps : List (Value × List Int)) (wr : World) (v : Value) (ks : List (Value × List Int)) (b4 : Option Nat) (i : Nat) : Prop where
  row : Row 1 wr v ks.length (ks.map (·.1)) b4
  sub : ∀ p ∈ ks, p ∈ ps
  eq : wds ks = keepTo (wds ps) i
  len : ks.length ≤ i
  new : ∀ z, b4 = some z → w2.heap.size ≤ z
  fr : Fr [] w2 wr
theorem WhI.skip {w2 : World} {ps : List (Value × List Int)} {wr : World} {v : Value} {ks : List (Value × List Int)} {b4 : Option Nat} {i : Nat} (h : WhI w2 ps wr v ks b4 i) {W : World} (f : Fr [] wr W) (hn : nxtB (wds ps) i = true) : WhI w2 ps W v ks b4 (i + 1) :=
  ⟨h.row.fr f (by simp), h.sub, by rw [keepTo_succ, hn, h.eq]; simp, by have := h.len; omega, h.new, h.fr.trans f⟩
theorem WhI.add {w2 : World} {ps : List (Value × List Int)} {wr : World} {v : Value} {ks : List (Value × List Int)} {b4 : Option Nat} {i : Nat} (h : WhI w2 ps wr v ks b4 i) {W : World} (f : Fr [] wr W) (hi : i < ps.length) (hn : nxtB (wds ps) i = false) (hl : i ≤ 1000000) (h1 : ps[i].1.oneCell' = true) :
    ∃ v' w' b', (Builtin.append_ #[53, 53] 53 #[v, .slice (some ⟨W.heap.size, 0, none⟩) 1 1]).run Try.prog (W.alloc (.cells #[ps[i].1] 25)) = .ok v' w' ∧ WhI w2 ps w' v' (ks ++ [ps[i]]) b' (i + 1) := by
  have hln : (ks.map (·.1)).length = ks.length := List.length_map _
  have hr : Row 1 W v (ks.map (·.1)).length (ks.map (·.1)) b4 := by rw [hln]; exact h.row.fr f (by simp)
  obtain ⟨v', w', b', happ, hr', hb', f'⟩ := hr.oneWs (by have := h.len; omega) ps[i].1 h1
  have s1 := h.fr.size
  have s2 := f.size
  refine ⟨v', w', b', happ, by simpa using hr', fun p hp => ?_, ?_, by simp; have := h.len; omega, fun z hz => ?_, (h.fr.trans f).step f' (fun z hz => .inr (h.new z (by simpa using hz)))⟩
  · rcases List.mem_append.mp hp with hp | hp
    · exact h.sub p hp
    · simp at hp; subst hp; exact List.getElem_mem hi
  · rw [keepTo_succ, hn]
    have e1 : (wds ps).getD i [] = ps[i].2 := by
      unfold wds
      rw [List.getD_eq_getElem?_getD, List.getElem?_map, List.getElem?_eq_getElem hi]; rfl
    rw [e1]
    have := h.eq
    unfold wds at *
    rw [List.map_append, this]; simp
  · rcases hb' with e | ⟨z', e, hz'⟩
    · exact h.new z (by rw [← e]; exact hz)
    · rw [hz] at e; cases e; omega
end Go.Proofs.Ytnggimkkjdipmaa
