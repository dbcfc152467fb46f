import Derived.Test.YtnggimkkjdipmaaTU6
import Derived.Test.YtnggimkkjdipmaaTL20
namespace Go.Proofs.Ytnggimkkjdipmaa
open Go.RowKit
set_option linter.unusedVariables false
set_option linter.unusedSimpArgs false
set_option maxHeartbeats 16000000
set_option maxRecDepth 100000
/-! ### Suite, its parts -/
/-- Words that are read, in blocks of some kind. -/
def WSq (q : Nat → Prop) (w : World) (v : Value) (ps : List (Value × List Int)) : Prop :=
  (∃ b off cap, v = .slice (some ⟨b, off, none⟩) ps.length cap ∧ 0 < ps.length ∧ ps.length ≤ cap ∧ b < w.heap.size ∧ q b ∧ ∀ i (h : i < ps.length), w.cell? ⟨b, off + i, none⟩ = some ps[i].1) ∧ ∀ p ∈ ps, NInB q w p.1 p.2
theorem WSq.fr {q q' : Nat → Prop} {w W : World} {v : Value} {ps : List (Value × List Int)} (h : WSq q w v ps) {ex : List Nat} (f : Fr ex w W) (hx : ∀ b, b < w.heap.size → q b → b ∉ ex ∧ q' b) : WSq q' W v ps := by
  obtain ⟨⟨b, off, cap, h3, h4, h5, h6, hq, h7⟩, h2⟩ := h
  refine ⟨⟨b, off, cap, h3, h4, h5, by have := f.size; omega, (hx b h6 hq).2, fun i hi => ?_⟩, fun p hp => (h2 p hp).frq f hx⟩
  rw [f.cell (p := ⟨b, off + i, none⟩) h6 (hx b h6 hq).1]; exact h7 i hi
theorem WSq.of {q : Nat → Prop} {w : World} {v : Value} {ps : List (Value × List Int)} {bo : Option Nat} (h : Row 1 w v ps.length (ps.map (·.1)) bo) (hp : 0 < ps.length) (hb : ∀ z, bo = some z → q z) (he : ∀ p ∈ ps, NInB q w p.1 p.2) : WSq q w v ps := by
  refine ⟨?_, he⟩
  rcases h with ⟨_, h2, _⟩ | ⟨b, off, cap, hbo, e, h3, h4, _, _, h7⟩
  · omega
  · refine ⟨b, off, cap, e, hp, h3, h4, hb b hbo, fun i hi => ?_⟩
    rw [h7 i (by omega)]; simp [hi]
theorem Row.capv {w : World} {v : Value} {l : List Int} {bo : Option Nat} (h : Row 1 w v l.length (ints l) bo) : CapV (v, l) := by
  rcases h with ⟨_, h2, _, o, rfl⟩ | ⟨b, off, cap, hb, rfl, h3, _⟩
  · exact ⟨o, 0, by dsimp only; rw [h2], by dsimp only; omega⟩
  · exact ⟨_, cap, rfl, h3⟩
theorem two_wsl {w : World} {v1 v2 : Value} {l1 l2 : List Int} (h1 : NIn w v1 l1) (h2 : NIn w v2 l2) : WSl (w.alloc (.cells #[v1, v2] 25)) (.slice (some ⟨w.heap.size, 0, none⟩) 2 2) [(v1, l1), (v2, l2)] := by
  have f : Fr [] w (w.alloc (.cells #[v1, v2] 25)) := (Fr.refl [] w).alloc _
  have P := Pt.newA w 25 #[v1, v2]
  refine ⟨.inr ⟨w.heap.size, 0, 2, rfl, by simp, by simp, P.lt, fun i hi => ?_⟩, fun p hp => ?_⟩
  · have hi2 : i = 0 ∨ i = 1 := by simp at hi; omega
    rcases hi2 with rfl | rfl
    · rw [P.cell]; rfl
    · rw [P.cell]; rfl
  · simp at hp
    rcases hp with rfl | rfl
    · exact h1.fr f
    · exact h2.fr f
/-- What is put together so far. -/
def sHead (tl0 : List (List Int)) (hs : List (List Int)) : List (List Int) := hs.flatMap fun h => tl0.map fun w => h ++ w
theorem sWords_eq (ev : Nat) (tl : List (List Int)) (c : List Int) : sWords ev tl c = sHead ([] :: tl) (headsL ev c) := rfl
theorem sHead_len (tl0 : List (List Int)) (hs : List (List Int)) : (sHead tl0 hs).length = hs.length * tl0.length := by
  unfold sHead
  induction hs with
  | nil => simp
  | cons x hs ih => rw [List.flatMap_cons, List.length_append, ih, List.length_map, List.length_cons, Nat.succ_mul]; omega
theorem sHead_succ (tl0 hs : List (List Int)) (i : Nat) (h : i < hs.length) : sHead tl0 (hs.take (i + 1)) = sHead tl0 (hs.take i) ++ tl0.map fun w => hs[i] ++ w := by
  unfold sHead
  rw [List.take_succ_eq_append_getElem h, List.flatMap_append]; simp
theorem headsL_len (ev : Nat) (c : List Int) : (headsL ev c).length = ev + 1 := by simp [headsL]
def headsTo (c : List Int) (e : Nat) : List (List Int) := c :: (List.range e).map fun e : Nat => c ++ [(e : Int)]
theorem headsTo_succ (c : List Int) (e : Nat) : headsTo c (e + 1) = headsTo c e ++ [c ++ [(e : Int)]] := by
  unfold headsTo
  rw [List.range_succ, List.map_append]; rfl
theorem headsTo_all (c : List Int) (ev : Nat) : headsTo c ev = headsL ev c := rfl
theorem headsL_lens {ev : Nat} {c x : List Int} (hx : x ∈ headsL ev c) : x.length ≤ c.length + 1 := by
  unfold headsL at hx
  rcases List.mem_cons.mp hx with rfl | hx
  · omega
  · obtain ⟨e, _, rfl⟩ := List.mem_map.mp hx
    simp
/-- Suite's words so far. -/
structure SuI (q : Nat → Prop) (wr : World) (v : Value) (ps : List (Value × List Int)) (bo : Option Nat) (L : List (List Int)) : Prop where
  wd : Wds q wr v ps bo
  eq : wds ps = L
  sh : ∀ p ∈ ps, p.2.length ≤ 500
  cap : ∀ p ∈ ps, CapV p
theorem SuI.len {q : Nat → Prop} {wr : World} {v : Value} {ps : List (Value × List Int)} {bo : Option Nat} {L : List (List Int)} (h : SuI q wr v ps bo L) : ps.length = L.length := by
  have := congrArg List.length h.eq
  unfold wds at this
  rw [List.length_map] at this
  exact this
theorem SuI.fr {q : Nat → Prop} {wr W : World} {v : Value} {ps : List (Value × List Int)} {bo : Option Nat} {L : List (List Int)} (h : SuI q wr v ps bo L) {ex : List Nat} (f : Fr ex wr W) (hx : ∀ x ∈ ex, ¬ q x) : SuI q W v ps bo L :=
  ⟨h.wd.fr f hx, h.eq, h.sh, h.cap⟩
/-- One word more: what Concat has made is appended. -/
theorem SuI.add {q : Nat → Prop} {wr : World} {v : Value} {ps : List (Value × List Int)} {bo : Option Nat} {L : List (List Int)} (h : SuI q wr v ps bo L) (hn : ps.length ≤ 1000000) {W : World} (f : Fr [] wr W) (hq : ∀ z, wr.heap.size ≤ z → q z)
    {u : Value} {word : List Int} {bu : Option Nat} (hu : Row 1 W u word.length (ints word) bu) (hbu : ∀ z, bu = some z → wr.heap.size ≤ z) (hl : word.length ≤ 500) :
    ∃ v' w' bo', (Builtin.append_ #[53, 53] 53 #[v, .slice (some ⟨W.heap.size, 0, none⟩) 1 1]).run Try.prog (W.alloc (.cells #[u] 25)) = .ok v' w' ∧ SuI q w' v' (ps ++ [(u, word)]) bo' (L ++ [word]) ∧
      (bo' = bo ∨ ∃ z, bo' = some z ∧ W.heap.size ≤ z) ∧ Fr bo.toList wr w' := by
  have hln : (ps.map (·.1)).length = ps.length := List.length_map _
  have hr : Row 1 W v (ps.map (·.1)).length (ps.map (·.1)) bo := by rw [hln]; exact h.wd.row.fr f (by simp)
  obtain ⟨v', w', bo', happ, hr', hb', f'⟩ := hr.oneWs (by omega) u hu.nin.one1
  refine ⟨v', w', bo', happ, ⟨h.wd.add f (hu.ninb hbu) hq hr' hb' f', ?_, fun p hp => ?_, fun p hp => ?_⟩, hb', (f.mono (by simp)).trans f'⟩
  · have := h.eq
    unfold wds at *
    rw [List.map_append, this]; simp
  · rcases List.mem_append.mp hp with hp | hp
    · exact h.sh p hp
    · simp at hp; subst hp; exact hl
  · rcases List.mem_append.mp hp with hp | hp
    · exact h.cap p hp
    · simp at hp; subst hp; exact hu.capv
/-- What Suite answers. -/
def tellsOf (M : Tb) : List (List Int) := onceF (tellAll M M.st.toNat)
def suiteF (T : Tb) : List (List Int) × Int := if validT T then (if 3000 < (suiteL (leastT T) (tellsOf (leastT T))).length then ([], 2) else (suiteL (leastT T) (tellsOf (leastT T)), 0)) else ([], 1)
end Go.Proofs.Ytnggimkkjdipmaa
