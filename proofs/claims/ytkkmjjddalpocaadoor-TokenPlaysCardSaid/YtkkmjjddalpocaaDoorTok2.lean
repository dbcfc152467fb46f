import Derived.Test.YtkkmjjddalpocaaDoorTok1
namespace Go.Proofs.YtkkmjjddalpocaaDoor
open Go.RowKit
set_option linter.unusedVariables false
set_option maxHeartbeats 800000
attribute [local go_sem] Oper.semAt_some
/-! ### The side of the program -/
structure TS where
  made : Bool
  mine : Int
  theirs : Int
  a0 : Int
  a1 : Int
  a2 : Int
  a3 : Int
def TS.cells (s : TS) : List Value := [.bool s.made, .int .i64 s.mine, .int .i64 s.theirs, .int .i64 s.a0, .int .i64 s.a1, .int .i64 s.a2, .int .i64 s.a3]
abbrev TSide : TypeId := 47
def TS.setA (s : TS) (t v : Int) : TS := if t = 0 then { s with a0 := v } else if t = 1 then { s with a1 := v } else if t = 2 then { s with a2 := v } else { s with a3 := v }
def TS.getA (s : TS) (t : Int) : Int := if t = 0 then s.a0 else if t = 1 then s.a1 else if t = 2 then s.a2 else s.a3
theorem Tab.ne {w : World} (h : Tab w) {b : Nat} {T : TypeId} {cs : List Value} (hp : Pt w b T cs) (hl : cs.length < 64) : b ≠ 1 := fun e => by
  have := h 63 (by omega)
  rw [e] at hp
  rw [hp.cell 63, List.getElem?_eq_none (by omega)] at this
  cases this
theorem Pt.ne_of_not_cells {w : World} {b : Nat} {T : TypeId} {cs : List Value} (hp : Pt w b T cs) {D : Nat} {o : Obj} (hD : w.heap[D]? = some o) (ho : o.isCells = false) : b ≠ D := fun e => by
  subst e
  rw [show w.heap[b]? = _ from hp] at hD; cases hD; cases ho
theorem toks_mem (a : Int) (i : Nat) (h : i < (toks a).length) : (toks a)[i] = 0 ∨ (toks a)[i] = 1 ∨ (toks a)[i] = 2 ∨ (toks a)[i] = 3 := by
  have hm : (toks a)[i] ∈ toks a := List.getElem_mem h
  have : ∀ x ∈ toks a, x = 0 ∨ x = 1 ∨ x = 2 ∨ x = 3 := by
    intro x hx
    unfold toks at hx
    simp only [List.mem_filterMap, List.mem_cons, List.not_mem_nil, or_false] at hx
    obtain ⟨⟨t, m⟩, ht, hs⟩ := hx
    split at hs
    · cases hs
    · simp only [Option.some.injEq] at hs
      subst hs
      rcases ht with h | h | h | h <;> cases h <;> simp
  exact this _ hm
theorem tHas_any (s t : Int) (w : World) : Calls Tryd.prog 28 #[.int .i64 s, .int .i64 t] w fun e w' => e = .returned (.bool (bits .and .i64 s t == t)) ∧ w = w' := by
  go_enter Tryd.func28, Tryd.ntmps28
  go_wp2
  go_ret
  exact ⟨rfl, rfl⟩
theorem tNone_nil (w : World) : Calls Tryd.prog 26 #[.pointer none] w fun e w' => e = .returned (.bool true) ∧ w = w' := by
  go_enter Tryd.func26, Tryd.ntmps26
  go_wp2
  go_ret
  exact ⟨rfl, rfl⟩
theorem tNone_any (b : Nat) (s : TS) (w : World) (hp : Pt w b TSide s.cells) : Calls Tryd.prog 26 #[.pointer (some ⟨b, 0, none⟩)] w fun e w' => e = .returned (.bool !s.made) ∧ w = w' := by
  obtain ⟨made, mine, theirs, a0, a1, a2, a3⟩ := s
  have hc := hp.cell
  simp only [TS.cells] at hc
  clear hp
  go_enter Tryd.func26, Tryd.ntmps26
  go_wp2
  go_ret
  exact ⟨rfl, rfl⟩
def forgetN (s : TS) (l : List Int) : TS := l.foldl (fun s t => s.setA t (-1)) s
theorem forgetN_snoc (s : TS) (l : List Int) (i : Nat) (h : i < l.length) : forgetN s (l.take (i + 1)) = (forgetN s (l.take i)).setA l[i] (-1) := by
  unfold forgetN; rw [List.take_succ_eq_append_getElem h, List.foldl_append]; rfl
set_option maxRecDepth 100000 in
set_option maxHeartbeats 2000000 in
theorem forget_any (b : Nat) (s : TS) (a : Int) (w : World) (hp : Pt w b TSide s.cells) (hT : Tab w) (h0 : 0 ≤ a) (h1 : a ≤ 15) :
    Calls Tryd.prog 29 #[.pointer (some ⟨b, 0, none⟩), .int .i64 a] w fun e w' => e = .returned (.tuple #[]) ∧ Pt w' b TSide (forgetN s (toks a)).cells ∧ Fr [b] w w' := by
  refine (callsIn_wide (n := 5)).1 ?_
  refine callsIn_of_wp_marks Tryd.func29 rfl trivial ?_ rfl
  simp only [Tryd.ntmps29, List.size_toArray, List.length_cons, List.length_nil, Nat.reduceAdd, Nat.reduceSub, Array.replicate_succ, Array.replicate_zero, List.push_toArray, List.append_toArray, List.nil_append, List.cons_append]
  gi_wp2
  have hbne := hT.ne hp (by simp [TS.cells])
  refine wpIn_range_list rfl (enters_of Tryd.func40 (by kernel_rfl) rfl) (each_gives a h0 h1 (5 - 1)) (fun _ => rfl)
    (fun i W => ((Pt W b TSide (forgetN s ((toks a).take i)).cells ∧ Pt W w.heap.size 25 [.pointer (some ⟨b, 0, none⟩)]) ∧ Fr [b] w W))
    (fun i W h => hT.fr h.2 (by simp; omega) hT.lt)
    (OwnFrom.and (OwnFrom.and (Pt.ownFrom _ _ _ _) (Pt.ownFrom _ _ _ (fun _ => _))) (Fr.ownFrom _ _ _ (by simp)))
    ⟨⟨hp.alloc _, Pt.newA _ _ _⟩, (Fr.refl _ _).alloc _⟩
    (fun t => { tmps := #[.pointer (some ⟨b, 0, none⟩), .int .i64 a, .pointer (some ⟨w.heap.size, 0, none⟩), undef, .int .i64 t, .int .i64 a, .func (.func 40) #[.int .i64 a] #[], .int .i64 t, undef, undef, undef, undef, undef], defers := [] })
    ?assign ?body ?done
  case assign =>
    intro l x W K hK
    gi_wp2
    exact hK
  case body =>
    rintro l i hi W ⟨⟨p1, p2⟩, hf⟩
    rw [forgetN_snoc s (toks a) i hi]
    obtain ⟨q, hq⟩ : ∃ q, forgetN s ((toks a).take i) = q := ⟨_, rfl⟩
    rw [hq] at p1 ⊢
    clear hq
    have hm := toks_mem a i hi
    obtain ⟨t, ht⟩ : ∃ t, (toks a)[i] = t := ⟨_, rfl⟩
    rw [ht] at hm ⊢
    clear ht
    obtain ⟨made, mine, theirs, a0, a1, a2, a3⟩ := q
    have c1 := p1.cell
    have f1 := p1.free
    have c2 := p2.cell
    simp only [TS.cells] at c1
    have hlt := hp.lt
    have hdone : ∀ (j : Nat) (v : Value) (cs : List Value), (TS.cells ⟨made, mine, theirs, a0, a1, a2, a3⟩).set j v = cs → KeepsFrom (w.heap.size + 1) W (W.setCell ⟨b, j, none⟩ v) ∧ (Pt (W.setCell ⟨b, j, none⟩ v) b TSide cs ∧ Pt (W.setCell ⟨b, j, none⟩ v) w.heap.size 25 [.pointer (some ⟨b, 0, none⟩)]) ∧ Fr [b] w (W.setCell ⟨b, j, none⟩ v) :=
      fun j v cs e => ⟨(KeepsOthers.setCell _ _ _).from _, ⟨p1.set' e, p2.ne (by simp; omega) _⟩, hf.setCell (by simp) _⟩
    have HD := Lib.hid hdone
    clear hdone p1 p2 hp hT
    rcases hm with rfl | rfl | rfl | rfl
    all_goals
      gi_wp2
      exact HD.out _ _ _ rfl
  case done =>
    rintro D W hD ⟨⟨p1, p2⟩, hf⟩ hK
    gi_wp2
    rw [List.take_of_length_le (Nat.le_refl _)] at p1
    refine leaves_marks [D] W ((Marks.nil (w.heap.size) W).cons hK (by simp at hD; omega) (by simp)) (fun W' hk hf' => ⟨.tuple #[], results_none rfl _ _ _, rfl, ?_, ?_⟩)
    · exact (hk b (by simp; exact p1.ne_of_not_cells hK rfl)).trans p1
    · exact hf.step hf' (by simp; simp at hD; omega)
end Go.Proofs.YtkkmjjddalpocaaDoor
