import Derived.Test.YtnggimkkjdipmaaTU6
import Derived.Test.YtnggimkkjdipmaaTL20
import Derived.Test.YtnggimkkjdipmaaTM6
namespace Go.Proofs.Ytnggimkkjdipmaa
open Go.RowKit
set_option linter.unusedVariables false
set_option linter.unusedSimpArgs false
set_option maxHeartbeats 16000000
set_option maxRecDepth 100000
/-! ### Suite, its parts -/
/-- Words that are read, in blocks of some kind. -/
def WSq (q : Nat → Prop) (w : World) (v : Value) (ps : List (Value × List Int)) : Prop :=
  (∃ b off cap, v = .slice (some ⟨b, off, none⟩) ps.length cap ∧ 0 < ps.length ∧ ps.length ≤ cap ∧ b < w.heap.size ∧ q b ∧ ∀ i (h : i < ps.length), w.cell? ⟨b, off + i, none⟩ = some ps[i].1) ∧ ∀ p ∈ ps, NInB q w p.1 p.2
theorem WSq.fr {q q' : Nat → Prop} {w W : World} {v : Value} {ps : List (Value × List Int)} (h : WSq q w v ps) {ex : List Nat} (f : Fr ex w W) (hx : ∀ b, b < w.heap.size → q b → b ∉ ex ∧ q' b) : WSq q' W v ps := by
  obtain ⟨⟨b, off, cap, h3, h4, h5, h6, hq, h7⟩, h2⟩ := h
  refine ⟨⟨b, off, cap, h3, h4, h5, by have := f.size; omega, (hx b h6 hq).2, fun i hi => ?_⟩, fun p hp => (h2 p hp).frq f hx⟩
  rw [f.cell (p := ⟨b, off + i, none⟩) h6 (hx b h6 hq).1]; exact h7 i hi
theorem WSq.of {q : Nat → Prop} {w : World} {v : Value} {ps : List (Value × List Int)} {bo : Option Nat} (h : Row 1 w v ps.length (ps.map (·.1)) bo) (hp : 0 < ps.length) (hb : ∀ z, bo = some z → q z) (he : ∀ p ∈ ps, NInB q w p.1 p.2) : WSq q w v ps := by
  refine ⟨?_, he⟩
  rcases h with ⟨_, h2, _⟩ | ⟨b, off, cap, hbo, e, h3, h4, _, _, h7⟩
  · omega
  · refine ⟨b, off, cap, e, hp, h3, h4, hb b hbo, fun i hi => ?_⟩
    rw [h7 i (by omega)]; simp [hi]
theorem Row.capv {w : World} {v : Value} {l : List Int} {bo : Option Nat} (h : Row 1 w v l.length (ints l) bo) : CapV (v, l) := by
  rcases h with ⟨_, h2, _, o, rfl⟩ | ⟨b, off, cap, hb, rfl, h3, _⟩
  · exact ⟨o, 0, by dsimp only; rw [h2], by dsimp only; omega⟩
  · exact ⟨_, cap, rfl, h3⟩
theorem two_wsl {w : World} {v1 v2 : Value} {l1 l2 : List Int} (h1 : NIn w v1 l1) (h2 : NIn w v2 l2) : WSl (w.alloc (.cells #[v1, v2] 25)) (.slice (some ⟨w.heap.size, 0, none⟩) 2 2) [(v1, l1), (v2, l2)] := by
  have f : Fr [] w (w.alloc (.cells #[v1, v2] 25)) := (Fr.refl [] w).alloc _
  have P := Pt.newA w 25 #[v1, v2]
  refine ⟨.inr ⟨w.heap.size, 0, 2, rfl, by simp, by simp, P.lt, fun i hi => ?_⟩, fun p hp => ?_⟩
  · have hi2 : i = 0 ∨ i = 1 := by simp at hi; omega
    rcases hi2 with rfl | rfl
    · rw [P.cell]; rfl
    · rw [P.cell]; rfl
  · simp at hp
    rcases hp with rfl | rfl
    · exact h1.fr f
    · exact h2.fr f
/-- What is put together so far. -/
def sHead (tl0 : List (List Int)) (hs : List (List Int)) : List (List Int) := hs.flatMap fun h => tl0.map fun w => h ++ w
theorem sWords_eq (ev : Nat) (tl : List (List Int)) (c : List Int) : sWords ev tl c = sHead ([] :: tl) (headsL ev c) := rfl
theorem sHead_len (tl0 : List (List Int)) (hs : List (List Int)) : (sHead tl0 hs).length = hs.length * tl0.length := by
  unfold sHead
  induction hs with
  | nil => simp
  | cons x hs ih => rw [List.flatMap_cons, List.length_append, ih, List.length_map, List.length_cons, Nat.succ_mul]; omega
theorem sHead_succ (tl0 hs : List (List Int)) (i : Nat) (h : i < hs.length) : sHead tl0 (hs.take (i + 1)) = sHead tl0 (hs.take i) ++ tl0.map fun w => hs[i] ++ w := by
  unfold sHead
  rw [List.take_succ_eq_append_getElem h, List.flatMap_append]; simp
theorem headsL_len (ev : Nat) (c : List Int) : (headsL ev c).length = ev + 1 := by simp [headsL]
def headsTo (c : List Int) (e : Nat) : List (List Int) := c :: (List.range e).map fun e : Nat => c ++ [(e : Int)]
theorem headsTo_succ (c : List Int) (e : Nat) : headsTo c (e + 1) = headsTo c e ++ [c ++ [(e : Int)]] := by
  unfold headsTo
  rw [List.range_succ, List.map_append]; rfl
theorem headsTo_all (c : List Int) (ev : Nat) : headsTo c ev = headsL ev c := rfl
theorem headsL_lens {ev : Nat} {c x : List Int} (hx : x ∈ headsL ev c) : x.length ≤ c.length + 1 := by
  unfold headsL at hx
  rcases List.mem_cons.mp hx with rfl | hx
  · omega
  · obtain ⟨e, _, rfl⟩ := List.mem_map.mp hx
    simp
/-- Suite's words so far. -/
structure SuI (q : Nat → Prop) (wr : World) (v : Value) (ps : List (Value × List Int)) (bo : Option Nat) (L : List (List Int)) : Prop where
  wd : Wds q wr v ps bo
  eq : wds ps = L
  sh : ∀ p ∈ ps, p.2.length ≤ 500
  cap : ∀ p ∈ ps, CapV p
theorem SuI.len {q : Nat → Prop} {wr : World} {v : Value} {ps : List (Value × List Int)} {bo : Option Nat} {L : List (List Int)} (h : SuI q wr v ps bo L) : ps.length = L.length := by
  have := congrArg List.length h.eq
  unfold wds at this
  rw [List.length_map] at this
  exact this
theorem SuI.fr {q : Nat → Prop} {wr W : World} {v : Value} {ps : List (Value × List Int)} {bo : Option Nat} {L : List (List Int)} (h : SuI q wr v ps bo L) {ex : List Nat} (f : Fr ex wr W) (hx : ∀ x ∈ ex, ¬ q x) : SuI q W v ps bo L :=
  ⟨h.wd.fr f hx, h.eq, h.sh, h.cap⟩
/-- One word more: what Concat has made is appended. -/
theorem SuI.add {q : Nat → Prop} {wr : World} {v : Value} {ps : List (Value × List Int)} {bo : Option Nat} {L : List (List Int)} (h : SuI q wr v ps bo L) (hn : ps.length ≤ 1000000) {W : World} (f : Fr [] wr W) (hq : ∀ z, wr.heap.size ≤ z → q z)
    {u : Value} {word : List Int} {bu : Option Nat} (hu : Row 1 W u word.length (ints word) bu) (hbu : ∀ z, bu = some z → wr.heap.size ≤ z) (hl : word.length ≤ 500) :
    ∃ v' w' bo', (Builtin.append_ #[53, 53] 53 #[v, .slice (some ⟨W.heap.size, 0, none⟩) 1 1]).run Try.prog (W.alloc (.cells #[u] 25)) = .ok v' w' ∧ SuI q w' v' (ps ++ [(u, word)]) bo' (L ++ [word]) ∧
      (bo' = bo ∨ ∃ z, bo' = some z ∧ W.heap.size ≤ z) ∧ Fr bo.toList wr w' := by
  have hln : (ps.map (·.1)).length = ps.length := List.length_map _
  have hr : Row 1 W v (ps.map (·.1)).length (ps.map (·.1)) bo := by rw [hln]; exact h.wd.row.fr f (by simp)
  obtain ⟨v', w', bo', happ, hr', hb', f'⟩ := hr.oneWs (by omega) u hu.nin.one1
  refine ⟨v', w', bo', happ, ⟨h.wd.add f (hu.ninb hbu) hq hr' hb' f', ?_, fun p hp => ?_, fun p hp => ?_⟩, hb', (f.mono (by simp)).trans f'⟩
  · have := h.eq
    unfold wds at *
    rw [List.map_append, this]; simp
  · rcases List.mem_append.mp hp with hp | hp
    · exact h.sh p hp
    · simp at hp; subst hp; exact hl
  · rcases List.mem_append.mp hp with hp | hp
    · exact h.cap p hp
    · simp at hp; subst hp; exact hu.capv
/-- What Suite answers. -/
def tellsOf (M : Tb) : List (List Int) := onceF (tellAll M M.st.toNat)
def suiteF (T : Tb) : List (List Int) × Int := if validT T then (if 3000 < (suiteL (leastT T) (tellsOf (leastT T))).length then ([], 2) else (suiteL (leastT T) (tellsOf (leastT T)), 0)) else ([], 1)
end Go.Proofs.Ytnggimkkjdipmaa
namespace Go.Proofs.Ytnggimkkjdipmaa
open Go.RowKit
set_option linter.unusedVariables false
set_option linter.unusedSimpArgs false
set_option maxHeartbeats 16000000
set_option maxRecDepth 100000
/-! ### Mutants -/
theorem count1_any (bn m : Nat) (hm : m ≤ 100000) (s e y1 y2 : Int) (W : World) (hP : Pt W bn 3 [.int .i64 m]) :
    Calls Try.prog 86 #[.int .i64 s, .int .i64 e, .agg #[.int .i64 y1, .int .i64 y2], .pointer (some ⟨bn, 0, none⟩)] W fun e W' => e = .returned (.bool true) ∧ Pt W' bn 3 [.int .i64 ((m + 1 : Nat) : Int)] ∧ Fr [bn] W W' := by
  obtain ⟨w1, hw1⟩ : ∃ x, W.alloc (.cells #[.int .i64 y1, .int .i64 y2] TRow) = x := ⟨_, rfl⟩
  have P1 := Pt.newA W TRow #[.int .i64 y1, .int .i64 y2]
  rw [hw1] at P1
  have F1 : Fr [] W w1 := by rw [← hw1]; exact (Fr.refl [] W).alloc _
  obtain ⟨b1, hb1⟩ : ∃ x, W.heap.size = x := ⟨_, rfl⟩
  rw [hb1] at P1
  have Q := F1.pt hP (by simp)
  have k := Q.cell
  have z := Q.free
  have p2 := Q.set 0 (.int .i64 ((m + 1 : Nat) : Int))
  have f2 : Fr [bn] w1 (w1.setCell ⟨bn, 0, none⟩ (.int .i64 ((m + 1 : Nat) : Int))) := (Fr.refl _ w1).setCell (by simp) _
  have e2 : ((m + 1 : Nat) : Int) = (m : Int) + 1 := by omega
  rw [e2] at p2 f2 ⊢
  simp only [List.set_cons_zero] at p2
  have GF : Fr [bn] W (w1.setCell ⟨bn, 0, none⟩ (.int .i64 ((m : Int) + 1))) := (F1.mono (by simp)).trans f2
  clear e2
  replace hP := Lib.hid hP; replace P1 := Lib.hid P1; replace F1 := Lib.hid F1; replace Q := Lib.hid Q; replace p2 := Lib.hid p2; replace f2 := Lib.hid f2; replace GF := Lib.hid GF
  go_enter Try.func86, Try.ntmps86
  go_wp2_with fail
  go_ret
  exact ⟨rfl, p2.out, GF.out⟩
theorem cf_count1 : ∀ W args, (callFunc 86 args).run Try.prog W = .ok (.enter 86 args) W := by
  intro W args
  have hb : Try.f86.body.isNone = false := by kernel_rfl
  simp [callFunc, go_sem, Try.func86]
  rw [if_neg (by decide +kernel), if_neg (fun h => by rw [h] at hb; cases hb)]
/-- What Mutants answers. -/
def mutsF (T : Tb) : Int × Int := if validT T then (((mutL T).length : Int), 0) else (0, 1)
theorem Mutants_any (T : Tb) (v : Value) (w : World) (hT : TIn w v T) :
    Calls Try.prog 48 #[v] w fun e w' => e = .returned (.tuple #[.int .i64 (mutsF T).1, .int .i64 (mutsF T).2]) ∧ Fr [] w w' := by
  obtain ⟨r, rfl, hR⟩ := hT
  rw [show T.val r = .agg #[.int .i64 T.st, .int .i64 T.ev, .int .i64 T.sr, r] from rfl]
  have VA : ∀ W, Fr [] w W → Calls Try.prog 19 #[.agg #[.int .i64 T.st, .int .i64 T.ev, .int .i64 T.sr, r]] W fun e w' => e = .returned (.bool (validT T)) ∧ Fr [] W w' := fun W f => valid_any T _ W ⟨r, rfl, hR.fr f⟩
  obtain ⟨⟨X, z⟩, hX⟩ : ∃ x, mutsF T = x := ⟨_, rfl⟩
  rw [hX]
  dsimp only
  obtain ⟨w1, hw1⟩ : ∃ x, w.alloc (.cells #[.int .i64 T.st, .int .i64 T.ev, .int .i64 T.sr, r] TTab) = x := ⟨_, rfl⟩
  have P1 := Pt.newA w TTab #[.int .i64 T.st, .int .i64 T.ev, .int .i64 T.sr, r]
  rw [hw1] at P1
  have F1 : Fr [] w w1 := by rw [← hw1]; exact (Fr.refl [] w).alloc _
  obtain ⟨b1, hb1⟩ : ∃ x, w.heap.size = x := ⟨_, rfl⟩
  rw [hb1] at P1
  have k1 := P1.cell
  replace hR := Lib.hid hR; replace VA := Lib.hid VA; replace hX := Lib.hid hX; replace P1 := Lib.hid P1; replace F1 := Lib.hid F1
  go_enter Try.func48, Try.ntmps48
  go_wp2_with fail
  refine (VA.out _ F1.out).mono ?_
  rintro e w4 ⟨rfl, f4⟩
  have F4 := F1.out.trans f4
  have p1 := f4.pt P1.out (by simp)
  clear k1 hb1 hw1
  cases hv : validT T
  · have hx := hX.out
    unfold mutsF at hx
    rw [hv] at hx
    obtain ⟨rfl, rfl⟩ : 0 = X ∧ 1 = z := by simpa using hx
    clear hx
    replace hv := Lib.hid hv; replace F4 := Lib.hid F4; replace f4 := Lib.hid f4; replace p1 := Lib.hid p1
    go_wp2_with fail
    refine bodyPost_ret (v := .tuple #[.int .i64 0, .int .i64 1]) (by simp [results, Try.results48, go_sem]) rfl ⟨rfl, F4.out⟩
  · have hV := (validT_iff T).mp hv
    have hx := hX.out
    unfold mutsF at hx
    rw [hv, if_pos rfl] at hx
    obtain ⟨hx1, rfl⟩ : ((mutL T).length : Int) = X ∧ 0 = z := by simpa using hx
    have hlen := mutL_len hV
    obtain ⟨w5a, hw5a⟩ : ∃ x, w4.alloc (.cells #[.int .i64 0] 3) = x := ⟨_, rfl⟩
    have P5a := Pt.newA w4 3 #[.int .i64 0]
    rw [hw5a] at P5a
    have F5a : Fr [] w4 w5a := by rw [← hw5a]; exact (Fr.refl [] w4).alloc _
    obtain ⟨b5, hb5⟩ : ∃ x, w4.heap.size = x := ⟨_, rfl⟩
    rw [hb5] at P5a
    have c5a := P5a.cell
    have z5a := P5a.free
    obtain ⟨w5, hw5⟩ : ∃ x, w5a.setCell ⟨b5, 0, none⟩ (.int .i64 0) = x := ⟨_, rfl⟩
    have P5 : Pt w5 b5 3 [.int .i64 0] := by rw [← hw5]; exact P5a.set' rfl
    have f5b : Fr [b5] w5a w5 := by rw [← hw5]; exact (Fr.refl _ w5a).setCell (by simp) _
    have F5 : Fr [] w4 w5 := F5a.step f5b (fun z hz => .inr (by simp at hz; omega))
    have Q1 := F5.pt p1 (by simp)
    have F05 := F4.trans F5
    have hlt := P5.lt
    have hb5w : w.heap.size ≤ b5 := by have := F4.size; omega
    have MU := mutants_any T r w w5 hR.out hV F05 86 #[.pointer (some ⟨b5, 0, none⟩)] cf_count1 [b5] (fun x hx => by simp at hx; omega) (fun _ => true) (fun m W => Pt W b5 3 [.int .i64 (m : Int)]) (fun i W W' h f => f.pt h (by simp)) P5
      (fun P x R hP W hJ hF => by
        have hPl : P.length ≤ 11160 := by rw [hP] at hlen; simp only [List.length_append, List.length_cons] at hlen; omega
        exact count1_any b5 P.length (by omega) x.1 x.2.1 x.2.2.1 x.2.2.2 W hJ)
    have k1 := Q1.cell
    clear hx
    replace hv := Lib.hid hv; replace hV := Lib.hid hV; replace hx1 := Lib.hid hx1; replace hlen := Lib.hid hlen; replace F4 := Lib.hid F4; replace f4 := Lib.hid f4; replace p1 := Lib.hid p1; replace P5a := Lib.hid P5a; replace F5a := Lib.hid F5a; replace P5 := Lib.hid P5; replace F5 := Lib.hid F5; replace f5b := Lib.hid f5b; replace Q1 := Lib.hid Q1; replace F05 := Lib.hid F05; replace MU := Lib.hid MU; replace hb5w := Lib.hid hb5w
    go_wp2_with fail
    refine MU.out.mono ?_
    rintro e w7 ⟨k, rfl, hkN, hJ, hF7, hgo, hend⟩
    obtain rfl : k = (mutL T).length := by
      rcases hend with h | ⟨q, _, h⟩
      · exact h
      · cases h
    have F7 := F05.out.step hF7 (fun q hq => .inr (by have := hb5w.out; simp at hq; omega))
    have c7 := hJ.cell
    rw [hx1.out] at c7
    clear k1 hb5 hw5 hw5a c5a z5a
    replace hkN := Lib.hid hkN; replace hJ := Lib.hid hJ; replace hF7 := Lib.hid hF7; replace F7 := Lib.hid F7
    clear hgo hend
    go_wp2_with fail
    refine bodyPost_ret (v := .tuple #[.int .i64 X, .int .i64 0]) (by simp [results, Try.results48, go_sem]) rfl ⟨rfl, F7.out⟩
theorem rmod_any (n m : Int) (w : World) (hn : -9223372036854775808 ≤ n ∧ n ≤ 9223372036854775807) (h1 : 1 ≤ m) (h2 : m ≤ 100000) :
    Calls Try.prog 50 #[.int .i64 n, .int .i64 m] w fun e w' => (∃ k : Int, e = .returned (.int .i64 k) ∧ 0 ≤ k ∧ k < m) ∧ Fr [] w w' := by
  have hm1 : ¬ m < 1 := by omega
  have hm0 : ¬ m = 0 := by omega
  by_cases hn0 : 0 ≤ n
  · have h3 := Int.emod_nonneg n (show m ≠ 0 by omega)
    have h4 := Int.emod_lt_of_pos n (show 0 < m by omega)
    have h5 : ¬ n % m < 0 := by omega
    go_enter Try.func50, Try.ntmps50
    go_wp2_with fail
    go_ret
    exact ⟨⟨_, rfl, h3, h4⟩, Fr.refl _ _⟩
  · have hq : n.tmod m = -((-n) % m) := by
      rw [← Int.tmod_eq_emod_of_nonneg (show 0 ≤ -n by omega), Int.neg_tmod, Int.neg_neg]
    have h3 := Int.emod_nonneg (-n) (show m ≠ 0 by omega)
    have h4 := Int.emod_lt_of_pos (-n) (show 0 < m by omega)
    obtain ⟨q, hq2⟩ : ∃ q, (-n) % m = q := ⟨_, rfl⟩
    rw [hq2] at hq h3 h4
    by_cases h0 : q = 0
    · have h5 : ¬ (-q) < 0 := by omega
      clear hq2
      go_enter Try.func50, Try.ntmps50
      go_wp2_with fail
      go_ret
      exact ⟨⟨_, rfl, by omega, by omega⟩, Fr.refl _ _⟩
    · have h5 : (-q) < 0 := by omega
      clear hq2
      go_enter Try.func50, Try.ntmps50
      go_wp2_with fail
      go_ret
      exact ⟨⟨_, rfl, by omega, by omega⟩, Fr.refl _ _⟩
end Go.Proofs.Ytnggimkkjdipmaa
