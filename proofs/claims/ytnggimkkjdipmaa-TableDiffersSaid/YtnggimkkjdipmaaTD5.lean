import Derived.Test.YtnggimkkjdipmaaTD4
namespace Go.Proofs.Ytnggimkkjdipmaa
open Go.RowKit
set_option linter.unusedVariables false
set_option linter.unusedSimpArgs false
set_option maxHeartbeats 16000000
set_option maxRecDepth 100000
/-! ### The reference's Copy, and its differ in the midst -/
theorem rcopy_any (v : Value) (ds : List Int) (w : World) (hD : NIn w v ds) (hn : ds.length < 1000000) :
    Calls Try.prog 84 #[v] w fun e w' => ∃ v' bo, e = .returned v' ∧ Row 1 w' v' ds.length (ints ds) bo ∧ (∀ z, bo = some z → w.heap.size ≤ z) ∧ Fr [] w w' := by
  have hD' := hD
  obtain ⟨o, cap, rfl, hl⟩ := hD'
  cases o with
  | none =>
    have h0 : ds = [] := by
      cases ds with
      | nil => rfl
      | cons a r => obtain ⟨_, _, e, _⟩ := hl 0 (by simp); cases e
    subst h0
    have f1 : Fr [] w (w.alloc (.cells #[] 3)) := (Fr.refl [] w).alloc _
    have hrun := run_append_nothing (P := Try.prog) (w := w.alloc (.cells #[] 3)) 25 25 25 3 iInt uInts infoInt (some ⟨w.heap.size, 0, none⟩) 0 0 (Nat.le_refl _) _ (Src.ofNil _ uInts cap)
    replace hrun := Lib.hid hrun; replace f1 := Lib.hid f1
    clear hD hl
    go_enter Try.func84, Try.ntmps84
    go_wp2_with (first | (at_builtin; refine wpList_append_run _ rfl _ _ _ rfl rfl rfl hrun.out ?_))
    go_ret
    exact ⟨_, none, rfl, Row.nil 1 _ _, by simp, f1.out⟩
  | some a0 =>
    obtain ⟨v', w', bo, hrun, hr, hb, hf⟩ := copy_run a0 cap ds w hD hn
    replace hrun := Lib.hid hrun
    clear hD hl
    go_enter Try.func84, Try.ntmps84
    go_wp2_with (first | (at_builtin; refine wpList_append_run _ rfl _ _ _ rfl rfl rfl hrun.out ?_))
    go_ret
    exact ⟨v', bo, rfl, hr, hb, hf⟩
structure RfI (A B : Tb) (w : World) (b1 b2 : Nat) (ra rb : Value) (L : List Vis) (M : List ((Int × Int) × Value)) (wr : World) (v : Value) (bo : Option Nat) : Prop where
  p1 : Pt wr b1 RTab [.int .i64 A.st, .int .i64 A.ev, .int .i64 A.sr, ra]
  p2 : Pt wr b2 RTab [.int .i64 B.st, .int .i64 B.ev, .int .i64 B.sr, rb]
  q : Row 3 wr v M.length (tcells M) bo
  keys : M.map (·.1) = L.map (·.1)
  val : ∀ k (h1 : k < M.length) (h2 : k < L.length), NInB (fun b => b ∉ bo.toList) wr M[k].2 L[k].2
  out : ∀ z, bo = some z → b2 < z
  g0 : w.heap.size ≤ b1
  g1 : b1 < b2
  fr : Fr [] w wr
variable {A B : Tb} {w : World} {b1 b2 : Nat} {ra rb : Value} {i : Nat} {L : List Vis} {M : List ((Int × Int) × Value)} {wr : World} {v : Value} {bo : Option Nat}
theorem RfI.mlen (h : RfI A B w b1 b2 ra rb L M wr v bo) : M.length = L.length := by
  have := congrArg List.length h.keys
  simpa using this
theorem RfI.frz (h : RfI A B w b1 b2 ra rb L M wr v bo) {W : World} (f : Fr [] wr W) : RfI A B w b1 b2 ra rb L M W v bo :=
  ⟨f.pt h.p1 (by simp), f.pt h.p2 (by simp), h.q.fr f (by simp), h.keys, fun k h1 h2 => (h.val k h1 h2).frq f (fun b _ hq => ⟨by simp, hq⟩), h.out, h.g0, h.g1, h.fr.trans f⟩
theorem RfI.add (h : RfI A B w b1 b2 ra rb L M wr v bo) (hl : L.length ≤ 1000) (x : Int × Int) (word : List Int) {W : World} (f : Fr [] wr W) {v5 : Value} (r5 : NInB (fun b => wr.heap.size ≤ b) W v5 word) :
    ∃ v' w9 bo', (Builtin.append_ #[99, 99] 99 #[v, .slice (some ⟨W.heap.size, 0, none⟩) 1 1]).run Try.prog (W.alloc (.cells #[.int .i64 x.1, .int .i64 x.2, v5] TPr)) = .ok v' w9 ∧
      RfI A B w b1 b2 ra rb (L ++ [(x, word)]) (M ++ [(x, v5)]) w9 v' bo' ∧ ∀ z T cs, Pt wr z T cs → z ∉ bo.toList → Pt w9 z T cs ∧ z ∉ bo'.toList := by
  have hml := h.mlen
  have l1 := h.p1.lt
  have l2 := h.p2.lt
  have g0 := h.g0
  have g1 := h.g1
  have s1 := f.size
  have lb : ∀ z, bo = some z → z < wr.heap.size := fun z hz => by have h3 := h.q; rw [hz] at h3; exact h3.lt
  have h1c : v5.oneCell' = true := by obtain ⟨o, cap, rfl, _⟩ := r5; rfl
  obtain ⟨v', w9, bo', hrun, hr, hb, hf⟩ := (h.q.fr f (by simp)).addT (by omega) (x, v5) h1c
  have hnb : ∀ b, b ≤ b2 → b ∉ bo.toList := fun b hb1 hm => by have := h.out b (by simpa using hm); omega
  have key : ∀ b, b < W.heap.size → (b ∉ bo.toList) → b ∉ bo'.toList := fun b hb1 hb2 hm => by
    rcases hb with e | ⟨z, e, hz⟩
    · rw [e] at hm; exact hb2 hm
    · rw [e] at hm; simp at hm; omega
  refine ⟨v', w9, bo', hrun, ⟨?_, ?_, hr, ?_, fun k h1 h2 => ?_, fun z hz => ?_, g0, g1, ?_⟩, fun z T cs hp h2 => ⟨hf.pt (f.pt hp (by simp)) h2, key z (by have := hp.lt; omega) h2⟩⟩
  · exact hf.pt (f.pt h.p1 (by simp)) (hnb _ (by omega))
  · exact hf.pt (f.pt h.p2 (by simp)) (hnb _ (by omega))
  · rw [List.map_append, List.map_append, h.keys]; rfl
  · by_cases hk : k < M.length
    · rw [List.getElem_append_left hk, List.getElem_append_left (by omega : k < L.length)]
      have hv := h.val k hk (by omega)
      have hv9 := hv.frq f (q' := fun b => b ∉ bo.toList ∧ b < W.heap.size) (fun b hb0 hq => ⟨by simp, hq, by omega⟩)
      exact hv9.frq hf (fun b hb1 hq => ⟨hq.1, key b hq.2 hq.1⟩)
    · obtain rfl : k = M.length := by simp at h1; omega
      have e1 : (M ++ [(x, v5)])[M.length] = (x, v5) := by simp
      have e2 : (L ++ [(x, word)])[M.length]'(by simp; omega) = (x, word) := by
        rw [List.getElem_append_right (by omega)]; simp [hml]
      rw [e1, e2]
      have hv9 := r5.frq (Fr.refl [] W) (q' := fun b => b ∉ bo.toList ∧ b < W.heap.size) (fun b hb0 hq => ⟨by simp, fun hm => by have := lb b (by simpa using hm); omega, by omega⟩)
      exact hv9.frq hf (fun b hb1 hq => ⟨hq.1, key b hq.2 hq.1⟩)
  · rcases hb with hb | ⟨z', hb, hz'⟩
    · rw [hb] at hz; exact h.out z hz
    · rw [hb] at hz; cases hz; omega
  · refine (h.fr.trans f).step hf (fun b hb1 => .inr ?_)
    have := h.out b (by simpa using hb1); omega
theorem RfI.put2 (h : RfI A B w b1 b2 ra rb L M wr v bo) (hl : L.length ≤ 1000) (x : Int × Int) (word : List Int) (hn : word.length < 100000) (e : Int) (W : World) (v2 : Value) (b2' : Option Nat) (bs : Nat) (f : Fr [] wr W) (hr : Row 1 W v2 word.length (ints word) b2') (hb : ∀ z, b2' = some z → wr.heap.size ≤ z) (hp : Pt W bs 3 [.int .i64 e]) :
    ∃ o5 n5 c5 w5 v' w9 bo', (Builtin.append_ #[25, 25] 25 #[v2, .slice (some ⟨bs, 0, none⟩) 1 1]).run Try.prog W = .ok (.slice o5 n5 c5) w5 ∧ Fr [] wr w5 ∧ n5 = (word ++ [e]).length ∧
      (Builtin.append_ #[99, 99] 99 #[v, .slice (some ⟨w5.heap.size, 0, none⟩) 1 1]).run Try.prog (w5.alloc (.cells #[.int .i64 x.1, .int .i64 x.2, .slice o5 n5 c5] TPr)) = .ok v' w9 ∧
      RfI A B w b1 b2 ra rb (L ++ [(x, word ++ [e])]) (M ++ [(x, .slice o5 n5 c5)]) w9 v' bo' ∧ ∀ z T cs, Pt wr z T cs → z ∉ bo.toList → Pt w9 z T cs ∧ z ∉ bo'.toList := by
  obtain ⟨v5, w5, b5, happ, hr5, hb5, f5⟩ := hr.addPt (by omega) hp
  have F5 : Fr [] wr w5 := f.step f5 (fun z hz => .inr (hb z (by simpa using hz)))
  have n5 : NInB (fun b => wr.heap.size ≤ b) w5 v5 (word ++ [e]) := hr5.ninb (fun z hz => by
    rcases hb5 with e' | ⟨z', e', h'⟩
    · rw [e'] at hz; exact hb z hz
    · rw [e'] at hz; cases hz; have := f.size; omega)
  obtain ⟨v', w9, bo', happ2, hI, hK⟩ := h.add hl x (word ++ [e]) F5 n5
  obtain ⟨o, c, rfl, _⟩ := n5
  exact ⟨o, _, c, w5, v', w9, bo', happ, F5, rfl, happ2, hI, hK⟩
theorem RfI.at (h : RfI A B w b1 b2 ra rb L M wr v bo) (hi : i < L.length) : ∃ b off cap vw, bo = some b ∧ v = .slice (some ⟨b, off, none⟩) L.length cap ∧ b < wr.heap.size ∧ wr.cell? ⟨b, off + i * 3, none⟩ = some (.int .i64 L[i].1.1) ∧ wr.cell? ⟨b, off + i * 3 + 1, none⟩ = some (.int .i64 L[i].1.2) ∧ wr.cell? ⟨b, off + i * 3 + 2, none⟩ = some vw ∧ NInB (fun b => b ∉ bo.toList) wr vw L[i].2 ∧ M[i]? = some (L[i].1, vw) := by
  have hml := h.mlen
  have hiM : i < M.length := by omega
  obtain ⟨b, off, cap, hbo, e, hb, c1, c2, c3⟩ := h.q.atT i hiM
  have hk : M[i].1 = L[i].1 := by
    have := congrArg (·[i]?) h.keys
    simp [hiM, hi] at this
    exact this
  rw [hk] at c1 c2
  rw [hml] at e
  exact ⟨b, off, cap, _, hbo, e, hb, c1, c2, c3, h.val i hiM hi, by rw [List.getElem?_eq_getElem hiM, ← hk]⟩
end Go.Proofs.Ytnggimkkjdipmaa
