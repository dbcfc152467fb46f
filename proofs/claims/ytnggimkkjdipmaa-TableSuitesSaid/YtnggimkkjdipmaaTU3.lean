import Derived.Test.YtnggimkkjdipmaaTL5
import Derived.Shelf.SlSortCmp.NoneTotal
namespace Go.Proofs.Ytnggimkkjdipmaa
open Go.RowKit
set_option linter.unusedVariables false
set_option linter.unusedSimpArgs false
set_option maxHeartbeats 16000000
set_option maxRecDepth 100000
/-! ### Words sorted as texts are -/
theorem cmpL_swo {α : Type} (f : α → List Int) : Go.Sort.SWO (ltOf fun x y : α => cmpL (f x) (f y)) where
  irrefl x := by
    have := (cmpL_zero (f x) (f x)).mpr rfl
    unfold ltOf; simp [this]
  trans x y z h1 h2 := by
    unfold ltOf at *
    simp only [decide_eq_true_eq] at *
    exact cmpL_trans _ _ _ h1 h2
  ntrans x y z h1 h2 := by
    unfold ltOf at *
    simp only [decide_eq_false_iff_not] at *
    intro h
    have e1 := cmpL_flip (f x) (f y)
    have e2 := cmpL_flip (f y) (f z)
    by_cases a : f x = f y
    · rw [a] at h; exact h2 h
    · by_cases b : f y = f z
      · rw [← b] at h; exact h1 h
      · have a' : cmpL (f x) (f y) ≠ 0 := fun e => a ((cmpL_zero _ _).mp e)
        have b' : cmpL (f y) (f z) ≠ 0 := fun e => b ((cmpL_zero _ _).mp e)
        have := cmpL_trans (f z) (f y) (f x) (by omega) (by omega)
        have := cmpL_flip (f x) (f z)
        omega
theorem cf_cmpl : ∀ W args, (callFunc 98 args).run Try.prog W = .ok (.enter 98 args) W := by
  intro W args
  have hb : Try.f98.body.isNone = false := by kernel_rfl
  simp [callFunc, go_sem, Try.func98]
  rw [if_neg (by decide +kernel), if_neg (fun h => by rw [h] at hb; cases hb)]
def SortC (q : Nat → Prop) (w : World) (v : Value) (ps : List (Value × List Int)) (bo : Option Nat) (e : Ending) (w' : World) : Prop :=
  ∃ ps', e = .returned (.tuple #[]) ∧ ps'.Perm ps ∧ (ps'.map (·.2)).Pairwise (fun a b => ¬ cmpL b a < 0) ∧ Wds q w' v ps' bo ∧ Fr bo.toList w w'
theorem sortC_any (q : Nat → Prop) (w : World) (v : Value) (ps : List (Value × List Int)) (bo : Option Nat) (h : Wds q w v ps bo) (hl : ∀ p ∈ ps, p.2.length ≤ 1000000) (hn : ps.length ≤ 1000000) :
    Calls Try.prog 97 #[v, .func (.func 98) #[] #[]] w (SortC q w v ps bo) := by
  rcases h.row with ⟨rfl, h2, _, o, rfl⟩ | ⟨blk, off, cap, rfl, rfl, h3, h4, h5, h6, h7⟩
  · have hps : ps = [] := List.eq_nil_of_length_eq_zero h2
    subst hps
    refine (AnyF.slices_SortFunc_none (P := Try.prog) (ρ := Try.sortW_ren) { Try.sortW with } o 0 _ w).mono fun e w' ⟨h1, h2⟩ => ?_
    subst h2
    exact ⟨[], h1, List.Perm.refl _, List.Pairwise.nil, h, Fr.refl _ _⟩
  · have hA : ∀ p ∈ ps, NInB (fun b => b ≠ blk) w p.1 p.2 ∧ p.2.length ≤ 1000000 := fun p hp => ⟨(h.each p hp).frq (Fr.refl [] w) (fun b _ hq => ⟨by simp, fun e => hq.2 (by simp [e])⟩), hl p hp⟩
    obtain ⟨d, hd⟩ : ∃ d : Array (WdA w blk), d.toList.map (·.1) = ps := ⟨(ps.attach.map fun p => (⟨p.1, hA p.1 p.2⟩ : WdA w blk)).toArray, by
      show ((ps.attach.map fun p => (⟨p.1, hA p.1 p.2⟩ : WdA w blk)).map (·.1)) = ps
      rw [List.map_map]; exact List.attach_map_subtype_val ps⟩
    have hsz : d.size = ps.length := by rw [← hd]; simp
    have hdj : ∀ j (hj : j < d.size), d[j]! = d[j] := fun j hj => getElem!_pos d j hj
    have hH : Go.Sort.Holds (fun x : WdA w blk => x.1.1) w blk off d := fun j hj => by
      refine ⟨?_, (h6 j (by omega)).2⟩
      rw [h7 j (by omega), hdj j hj, ← hd]
      simp [hj]
    have hcmp : CmpLays1 Try.prog 98 #[] (fun x : WdA w blk => x.1.1) (fun x y => cmpL x.1.2 y.1.2) blk off d.size w := fun m os dk hdk x y => by
      have fs := sortWorld_fr (fun x : WdA w blk => x.1.1) w blk off m dk os
      have := cmpl_any x.1.1 y.1.1 x.1.2 y.1.2 (sortWorld (fun x : WdA w blk => x.1.1) w blk off m dk os) ((x.2.1.frq fs (q' := fun _ => True) (fun b _ hq => ⟨by simp; exact hq, trivial⟩)).nin) ((y.2.1.frq fs (q' := fun _ => True) (fun b _ hq => ⟨by simp; exact hq, trivial⟩)).nin) x.2.2 y.2.2
      exact this.mono fun e w' ⟨h1, h2⟩ => ⟨h1, 0, #[], by rw [← h2]; simp [Go.Sort.grow, Go.Sort.ahead] <;> rfl⟩
    have C := Any.slices_SortFunc Try.sortW (fun x : WdA w blk => x.1.1) (fun x => by obtain ⟨o, c, e, _⟩ := x.2.1; dsimp only; rw [e]; rfl) (fun x y => cmpL x.1.2 y.1.2) (cmpL_swo fun x : WdA w blk => x.1.2) 98 #[] blk off cap d w (fun args W => cf_cmpl W args) hcmp hH h4 (by omega)
    rw [hsz] at C
    refine C.mono fun e w' ⟨h1, d', n, os, hp, hs, hw⟩ => ?_
    obtain ⟨hps, _, hperm⟩ := hp
    have hsz' : d'.size = d.size := hps
    obtain ⟨c1, c2, c3⟩ := sortWorld_cell (fun x : WdA w blk => x.1.1) w blk off n d d' os h4 hH hsz'
    have hfr := sortWorld_fr (fun x : WdA w blk => x.1.1) w blk off n d' os
    rw [← hw] at c1 c2 c3 hfr
    have hperm2 : (d'.toList.map (·.1)).Perm ps := by
      rw [← hd]
      refine List.Perm.map _ ?_
      have e1 : (d'.extract 0 ps.length).toList = d'.toList := by rw [Array.toList_extract]; simp [List.extract]; exact List.take_of_length_le (by rw [Array.length_toList]; omega)
      have e2 : (d.extract 0 ps.length).toList = d.toList := by rw [Array.toList_extract]; simp [List.extract]; exact List.take_of_length_le (by rw [Array.length_toList]; omega)
      rw [← e1, ← e2]
      exact hperm
    have hln : (d'.toList.map (·.1)).length = ps.length := hperm2.length_eq
    have hd'j : ∀ j (hj : j < d'.size), d'[j]! = d'[j] := fun j hj => getElem!_pos d' j hj
    refine ⟨d'.toList.map (·.1), h1, hperm2, ?_, ⟨?_, fun p hp => ?_, h.qo⟩, by simpa using hfr⟩
    · rw [List.map_map, List.pairwise_iff_getElem]
      intro i j hi hj hij
      simp only [List.length_map, Array.length_toList] at hi hj
      have := hs i j (Nat.zero_le _) hij (by omega)
      rw [hd'j i hi, hd'j j hj] at this
      unfold ltOf at this
      simpa using this
    · rw [hln]
      refine .inr ⟨blk, off, cap, rfl, rfl, h3, Nat.lt_of_lt_of_le h4 hfr.size, by simp [hsz', hsz], fun j hj => ⟨?_, by rw [c3]; exact (h6 j hj).2⟩, fun j hj => ?_⟩
      · by_cases e : j < d'.size
        · rw [c1 j e]; rfl
        · rw [c2 j (by omega)]; exact (h6 j hj).1
      · have e : j < d'.size := by omega
        rw [c1 j e, hd'j j e]
        simp [e]
    · have hp2 : p ∈ ps := hperm2.mem_iff.mp hp
      exact (h.each p hp2).frq hfr (fun b _ hq => ⟨fun hm => hq.2 (by simpa using hm), hq⟩)
end Go.Proofs.Ytnggimkkjdipmaa
