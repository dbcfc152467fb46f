import Derived.Test.YtnggimkkjdipmaaTJ2
import Derived.Test.YtnggimkkjdipmaaTD8b
import Derived.Deep.CutBlock
namespace Go.Proofs.Ytnggimkkjdipmaa
open Go.RowKit
set_option linter.unusedVariables false
set_option linter.unusedSimpArgs false
set_option maxHeartbeats 16000000
set_option maxRecDepth 100000
abbrev TVis : TypeId := 128
theorem uVis : Try.prog.underlying 129 = some (.slice TVis) := by kernel_rfl
noncomputable def iVis : TypeInfo := (Try.prog.info? TVis).getD default
theorem infoVis : Try.prog.info? TVis = some iVis := by kernel_rfl
noncomputable def zVis : Value := iVis.zero.getD (.int .i64 0)
theorem Row.addV {w : World} {v : Value} {l : List ((Int × Int) × Value)} {bo : Option Nat} (h : Row 3 w v l.length (tcells l) bo) (hn : l.length < 1000000) (x : (Int × Int) × Value) (h1 : x.2.oneCell' = true) :
    ∃ v' w' bo', (Builtin.append_ #[129, 129] 129 #[v, .slice (some ⟨w.heap.size, 0, none⟩) 1 1]).run Try.prog (w.alloc (.cells #[.int .i64 x.1.1, .int .i64 x.1.2, x.2] TVis)) = .ok v' w' ∧
      Row 3 w' v' (l ++ [x]).length (tcells (l ++ [x])) bo' ∧ (bo' = bo ∨ ∃ z, bo' = some z ∧ w.heap.size ≤ z) ∧ Fr bo.toList w w' := by
  have f1 : Fr [] w (w.alloc (.cells #[.int .i64 x.1.1, .int .i64 x.1.2, x.2] TVis)) := (Fr.refl [] w).alloc _
  have P1 := Pt.newA w TVis #[.int .i64 x.1.1, .int .i64 x.1.2, x.2]
  have hr1 := h.fr f1 (by simp)
  have hsrc : Src Try.prog 3 129 (.slice (some ⟨w.heap.size, 0, none⟩) 1 1) 1 (tcells [x]) (w.alloc (.cells #[.int .i64 x.1.1, .int .i64 x.1.2, x.2] TVis)) :=
    Src.ofSlice _ uVis ⟨w.heap.size, 0, none⟩ 1 1 _ rfl (fun j u hu => by rw [Addr.add_lit, P1.cell, Nat.zero_add]; simpa [tcells] using hu) (by intro u hu; simp [tcells] at hu; rcases hu with rfl | rfl | rfl; rfl; rfl; exact h1)
  obtain ⟨v', w', bo', hrun, hr, hb, hf⟩ := hr1.append (t := 129) (ty := 129) (e := TVis) (i := iVis) (z := zVis) uVis infoVis (by kernel_rfl) (by kernel_rfl) (by omega) (by kernel_rfl) (of_decide_eq_true (by kernel_rfl)) hn hsrc (by omega) (by omega)
  refine ⟨v', w', bo', hrun, ?_, ?_, (f1.mono (by simp)).trans hf⟩
  · rw [tcells_app, List.length_append]; exact hr
  · rcases hb with hb | hb
    · exact .inl hb
    · exact .inr ⟨_, hb, f1.size⟩
theorem Row.popT {w : World} {v : Value} {x : (Int × Int) × Value} {t : List ((Int × Int) × Value)} {bo : Option Nat} (h : Row 3 w v (x :: t).length (tcells (x :: t)) bo) :
    ∃ b off cap, v = .slice (some ⟨b, off, none⟩) (t.length + 1) cap ∧ t.length + 1 ≤ cap ∧ b < w.heap.size ∧ bo = some b ∧ w.cell? ⟨b, off, none⟩ = some (.int .i64 x.1.1) ∧ w.cell? ⟨b, off + 1, none⟩ = some (.int .i64 x.1.2) ∧ w.cell? ⟨b, off + 2, none⟩ = some x.2 ∧
      ∀ u, u = (if cap = 1 then Value.slice (some ⟨b, off, none⟩) t.length 0 else .slice (some ⟨b, off + 3, none⟩) t.length (cap - 1)) → ∃ o', Row 3 w u t.length (tcells t) o' ∧ (o' = bo ∨ o' = none) := by
  have hcl : tcells (x :: t) = [.int .i64 x.1.1, .int .i64 x.1.2, x.2] ++ tcells t := rfl
  rcases h with ⟨_, h2, _⟩ | ⟨b, off, cap, hb, hv, h3, h4, h5, h6, h7⟩
  · simp at h2
  · simp only [List.length_cons] at h3 h5 h7
    refine ⟨b, off, cap, hv, h3, h4, hb, ?_, ?_, ?_, fun u hu => ?_⟩
    · have := h7 0 (by omega)
      rw [Nat.add_zero] at this
      rw [this, hcl]; rfl
    · rw [h7 1 (by omega), hcl]; rfl
    · rw [h7 2 (by omega), hcl]; rfl
    · by_cases hc1 : cap = 1
      · rw [if_pos hc1] at hu
        have hr0 : t = [] := by cases t with | nil => rfl | cons _ _ => simp at h3; omega
        subst hr0
        rw [hu]
        exact ⟨none, Row.nil 3 w _, .inr rfl⟩
      · rw [if_neg hc1] at hu
        refine ⟨some b, .inr ⟨b, off + 3, cap - 1, rfl, hu, by omega, h4, tcells_len t, fun j hj => ?_, fun j hj => ?_⟩, .inl hb.symm⟩
        · rw [Nat.add_assoc]; exact h6 _ (by omega)
        · rw [Nat.add_assoc, h7 _ (by omega), hcl, List.getElem?_append_right (show 3 ≤ 3 + j by omega)]
          congr 1
          show 3 + j - 3 = j
          omega
noncomputable def fsPair : Array Field := match Try.prog.underlying 125 with | some (.struct fs) => fs | _ => #[]
noncomputable def fP0 : Field := fsPair.getD 0 default
noncomputable def fP1 : Field := fsPair.getD 1 default
theorem uPair : Try.prog.underlying 125 = some (.struct #[fP0, fP1]) := by kernel_rfl
theorem keyPair (p : Int × Int) (h1 : 0 ≤ p.1 ∧ p.1 ≤ 1000) (h2 : 0 ≤ p.2 ∧ p.2 ≤ 1000) : ∃ q, keyOf Try.prog 125 (pairK p) = some q := by
  have hu := uPair
  have t0 : fP0.type = 3 := by kernel_rfl
  have t1 : fP1.type = 3 := by kernel_rfl
  have o0 : fP0.offset = 0 := by kernel_rfl
  have o1 : fP1.offset = 1 := by kernel_rfl
  have n0 : (fP0.name != "_") = true := by kernel_rfl
  have n1 : (fP1.name != "_") = true := by kernel_rfl
  have hk : Try.prog.keyType 125 = true := by kernel_rfl
  have w1 : (Lit.int .i64 p.1).wf = true := by
    simp [Lit.wf, show IntKind.i64.min = -9223372036854775808 by decide +kernel, show IntKind.i64.max = 9223372036854775807 by decide +kernel]; omega
  have w2 : (Lit.int .i64 p.2).wf = true := by
    simp [Lit.wf, show IntKind.i64.min = -9223372036854775808 by decide +kernel, show IntKind.i64.max = 9223372036854775807 by decide +kernel]; omega
  have hs : ∃ n, Try.prog.types.size + 1 = n + 1 + 1 := ⟨Try.prog.types.size - 1, by have : 1 ≤ Try.prog.types.size := of_decide_eq_true (by kernel_rfl); omega⟩
  obtain ⟨n, hn⟩ := hs
  have hc : Try.prog.cellsOf 125 = 2 := by kernel_rfl
  have hc1 : Try.prog.cellsOf 3 = 1 := by kernel_rfl
  have hkl : ∃ ls, Try.prog.keyLits (Try.prog.types.size + 1) 125 (pairK p).cells.toList = some ls := by
    rw [hn]
    unfold Program.keyLits
    rw [hu]
    simp only [pairK, Value.cells, hc]
    rw [if_pos ⟨rfl, by simp [n0, n1]⟩]
    simp [t0, t1, o0, o1, hc1, Program.keyLits, uInt, w1, w2]
  obtain ⟨ls, hls⟩ := hkl
  have hf : (pairK p).formed Try.prog 125 = true := by
    simp [Value.formed, pairK, hu, hc]
  refine ⟨.string (keyBytes ls), ?_⟩
  unfold keyOf
  rw [hu]
  simp only [hk, hf, Bool.and_self, if_true, hls, Option.map_some]
theorem uMapV : Try.prog.underlying 126 = some (.map 125 4) := by kernel_rfl
/-- differ, in the midst. -/
structure DfI (A B : Tb) (w : World) (b1 b2 bm : Nat) (ra rb : Value) (i : Nat) (L : List Vis) (M : List ((Int × Int) × Value)) (wr : World) (v : Value) (bo : Option Nat) : Prop where
  p1 : Pt wr b1 TTab [.int .i64 A.st, .int .i64 A.ev, .int .i64 A.sr, ra]
  p2 : Pt wr b2 TTab [.int .i64 B.st, .int .i64 B.ev, .int .i64 B.sr, rb]
  q : Row 3 wr v (M.drop i).length (tcells (M.drop i)) bo
  keys : M.map (·.1) = L.map (·.1)
  mp : MapK pairK wr bm (prK (L.map (·.1)))
  val : ∀ k (h1 : k < M.length) (h2 : k < L.length), NInB (fun b => b ≠ bm ∧ b ∉ bo.toList) wr M[k].2 L[k].2
  out : ∀ z, bo = some z → bm < z
  g0 : w.heap.size ≤ b1
  g1 : b1 < b2
  g2 : b2 < bm
  fr : Fr [] w wr
variable {A B : Tb} {w : World} {b1 b2 bm : Nat} {ra rb : Value} {i : Nat} {L : List Vis} {M : List ((Int × Int) × Value)} {wr : World} {v : Value} {bo : Option Nat}
theorem DfI.mlen (h : DfI A B w b1 b2 bm ra rb i L M wr v bo) : M.length = L.length := by
  have := congrArg List.length h.keys
  simpa using this
theorem DfI.frz (h : DfI A B w b1 b2 bm ra rb i L M wr v bo) {W : World} (f : Fr [] wr W) : DfI A B w b1 b2 bm ra rb i L M W v bo :=
  ⟨f.pt h.p1 (by simp), f.pt h.p2 (by simp), h.q.fr f (by simp), h.keys, h.mp.fr f (by simp), fun k h1 h2 => (h.val k h1 h2).frq f (fun b _ hq => ⟨by simp, hq⟩), h.out, h.g0, h.g1, h.g2, h.fr.trans f⟩
theorem DvOk.keysV (hO : DvOk A B L) (h1 : A.st ≤ 30) (h2 : B.st ≤ 30) : ∀ x ∈ prK (L.map (·.1)), ∃ q, keyOf Try.prog 125 (pairK x.1) = some q := fun x hx => by
  have hm : x.1 ∈ L.map (·.1) := by rw [← prK_keys (L.map (·.1))]; exact List.mem_map.mpr ⟨x, hx, rfl⟩
  have := hO.pr.rng _ hm
  exact keyPair _ (by omega) (by omega)
theorem DfI.ask (h : DfI A B w b1 b2 bm ra rb i L M wr v bo) (hO : DvOk A B L) (h1 : A.st ≤ 30) (h2 : B.st ≤ 30) (x : Int × Int) (hx : 0 ≤ x.1 ∧ x.1 < A.st ∧ 0 ≤ x.2 ∧ x.2 < B.st) {W : World} (f : Fr [] wr W) :
    (Instr.lookup 126 (.map (some bm)) (.agg #[.int .i64 x.1, .int .i64 x.2]) false).run Try.prog W = .ok (.bool (decide (x ∈ L.map (·.1)))) W := by
  have := (h.mp.fr f (by simp)).lookW (P := Try.prog) (t := 126) lawPair uMapV pairK_inj (by rw [prK_keys]; exact hO.pr.nd) (hO.keysV h1 h2) (bool_zero W) x (keyPair _ (by omega) (by omega))
  rw [prK_get] at this
  exact this
theorem DfI.put (h : DfI A B w b1 b2 bm ra rb i L M wr v bo) (hO : DvOk A B L) (h1 : A.st ≤ 30) (h2 : B.st ≤ 30) (x : Int × Int) (hx : 0 ≤ x.1 ∧ x.1 < A.st ∧ 0 ≤ x.2 ∧ x.2 < B.st) (hn : x ∉ L.map (·.1)) {W : World} (f : Fr [] wr W) :
    ∃ w6, (Instr.mapUpdate 126 (.map (some bm)) (.agg #[.int .i64 x.1, .int .i64 x.2]) (.bool true)).run Try.prog W = .ok () w6 ∧ MapK pairK w6 bm (prK (L.map (·.1) ++ [x])) ∧ Fr [bm] W w6 := by
  obtain ⟨w6, UP, M6, f6⟩ := (h.mp.fr f (by simp)).newW (P := Try.prog) (t := 126) lawPair uMapV pairK_inj (by rw [prK_keys]; exact hO.pr.nd) (hO.keysV h1 h2) x (keyPair _ (by omega) (by omega)) (kget_none _ _ (by rw [prK_keys]; exact hn)) (.bool true)
  exact ⟨w6, UP, by rw [prK_snoc]; exact M6, f6⟩
theorem DfI.add (h : DfI A B w b1 b2 bm ra rb i L M wr v bo) (hl : L.length ≤ 1000) (hi : i ≤ L.length) (x : Int × Int) (word : List Int) {W w6 : World} (f : Fr [] wr W) {v5 : Value} (r5 : NInB (fun b => wr.heap.size ≤ b) W v5 word) (M6 : MapK pairK w6 bm (prK (L.map (·.1) ++ [x]))) (f6 : Fr [bm] W w6) :
    ∃ v' w9 bo', (Builtin.append_ #[129, 129] 129 #[v, .slice (some ⟨w6.heap.size, 0, none⟩) 1 1]).run Try.prog (w6.alloc (.cells #[.int .i64 x.1, .int .i64 x.2, v5] TVis)) = .ok v' w9 ∧
      DfI A B w b1 b2 bm ra rb i (L ++ [(x, word)]) (M ++ [(x, v5)]) w9 v' bo' ∧ ∀ z T cs, Pt wr z T cs → z ≠ bm → z ∉ bo.toList → Pt w9 z T cs ∧ z ∉ bo'.toList := by
  have hml := h.mlen
  have hgm : ∀ z, bo = some z → z ≠ bm := fun z hz => by have := h.out z hz; omega
  have l1 := h.p1.lt
  have l2 := h.p2.lt
  have l3 := h.mp.lt
  have g0 := h.g0
  have g1 := h.g1
  have g2 := h.g2
  have s1 := f.size
  have s6 := f6.size
  have lb : ∀ z, bo = some z → z < wr.heap.size := fun z hz => by have h3 := h.q; rw [hz] at h3; exact h3.lt
  have q6 := (h.q.fr f (by simp)).fr f6 (fun z hz => by simp; exact hgm z hz)
  have h1c : v5.oneCell' = true := by obtain ⟨o, cap, rfl, _⟩ := r5; rfl
  obtain ⟨v', w9, bo', hrun, hr, hb, hf⟩ := q6.addV (by simp; omega) (x, v5) h1c
  have hnb : ∀ b, b ≤ bm → b ∉ bo.toList := fun b hb1 hm => by have := h.out b (by simpa using hm); omega
  have key : ∀ b, b < w6.heap.size → (b ∉ bo.toList) → b ∉ bo'.toList := fun b hb1 hb2 hm => by
    rcases hb with e | ⟨z, e, hz⟩
    · rw [e] at hm; exact hb2 hm
    · rw [e] at hm; simp at hm; omega
  refine ⟨v', w9, bo', hrun, ⟨?_, ?_, ?_, ?_, ?_, fun k h1 h2 => ?_, fun z hz => ?_, g0, g1, g2, ?_⟩, fun z T cs hp h1 h2 => ⟨hf.pt (f6.pt (f.pt hp (by simp)) (by simp; exact h1)) h2, key z (by have := hp.lt; omega) h2⟩⟩
  · exact hf.pt (f6.pt (f.pt h.p1 (by simp)) (by simp; omega)) (hnb _ (by omega))
  · exact hf.pt (f6.pt (f.pt h.p2 (by simp)) (by simp; omega)) (hnb _ (by omega))
  · rw [List.drop_append_of_le_length (by omega)]; exact hr
  · rw [List.map_append, List.map_append, h.keys]; rfl
  · rw [List.map_append]
    exact M6.fr hf (hnb bm (Nat.le_refl _))
  · by_cases hk : k < M.length
    · rw [List.getElem_append_left hk, List.getElem_append_left (by omega : k < L.length)]
      have hv := h.val k hk (by omega)
      have hv8 := hv.frq f (q' := fun b => b ≠ bm ∧ b ∉ bo.toList) (fun b _ hq => ⟨by simp, hq⟩)
      have hv9 := hv8.frq f6 (q' := fun b => b ≠ bm ∧ b ∉ bo.toList ∧ b < w6.heap.size) (fun b hb0 hq => ⟨by simp; exact hq.1, hq.1, hq.2, by omega⟩)
      exact hv9.frq hf (fun b hb1 hq => ⟨hq.2.1, hq.1, key b hq.2.2 hq.2.1⟩)
    · obtain rfl : k = M.length := by simp at h1; omega
      have e1 : (M ++ [(x, v5)])[M.length] = (x, v5) := by simp
      have e2 : (L ++ [(x, word)])[M.length]'(by simp; omega) = (x, word) := by
        rw [List.getElem_append_right (by omega)]; simp [hml]
      rw [e1, e2]
      have hv9 := r5.frq f6 (q' := fun b => b ≠ bm ∧ b ∉ bo.toList ∧ b < w6.heap.size) (fun b hb0 hq => ⟨by simp; omega, by omega, fun hm => by have := lb b (by simpa using hm); omega, by omega⟩)
      exact hv9.frq hf (fun b hb1 hq => ⟨hq.2.1, hq.1, key b hq.2.2 hq.2.1⟩)
  · rcases hb with hb | ⟨z', hb, hz'⟩
    · rw [hb] at hz; exact h.out z hz
    · rw [hb] at hz; cases hz; omega
  · refine ((h.fr.trans f).step f6 (fun b hb1 => .inr ?_)).step hf (fun b hb1 => .inr ?_)
    · simp at hb1; omega
    · have := h.out b (by simpa using hb1); omega
/-- The head of the queue. -/
theorem DfI.head (h : DfI A B w b1 b2 bm ra rb i L M wr v bo) (hi : i < L.length) : ∃ b off n cap vw, v = .slice (some ⟨b, off, none⟩) (n + 1) cap ∧ n + 1 ≤ cap ∧ b < wr.heap.size ∧ wr.cell? ⟨b, off, none⟩ = some (.int .i64 L[i].1.1) ∧ wr.cell? ⟨b, off + 1, none⟩ = some (.int .i64 L[i].1.2) ∧ wr.cell? ⟨b, off + 2, none⟩ = some vw ∧ NInB (fun b => b ≠ bm ∧ b ∉ bo.toList) wr vw L[i].2 ∧ n + 1 = L.length - i ∧ M[i]? = some (L[i].1, vw) ∧
    ∀ u, u = (if cap = 1 then Value.slice (some ⟨b, off, none⟩) n 0 else .slice (some ⟨b, off + 3, none⟩) n (cap - 1)) → ∃ o', DfI A B w b1 b2 bm ra rb (i + 1) L M wr u o' := by
  have hml := h.mlen
  have hiM : i < M.length := by omega
  have hd : M.drop i = M[i] :: M.drop (i + 1) := List.drop_eq_getElem_cons hiM
  have hq := h.q
  rw [hd] at hq
  obtain ⟨b, off, cap, rfl, hc, hb, hbo, c1, c2, c3, hn⟩ := hq.popT
  have hk : M[i].1 = L[i].1 := by
    have := congrArg (·[i]?) h.keys
    simp [hiM, hi] at this
    exact this
  rw [hk] at c1 c2
  refine ⟨b, off, _, cap, _, rfl, hc, hb, c1, c2, c3, h.val i hiM hi, by simp; omega, by rw [List.getElem?_eq_getElem hiM, ← hk], fun u hu => ?_⟩
  obtain ⟨o', hr, ho⟩ := hn u hu
  refine ⟨o', h.p1, h.p2, hr, h.keys, h.mp, fun k h1 h2 => ?_, fun z hz => ?_, h.g0, h.g1, h.g2, h.fr⟩
  · refine (h.val k h1 h2).frq (Fr.refl [] wr) (fun b _ hq => ⟨by simp, hq.1, fun hm => ?_⟩)
    rcases ho with e | e
    · rw [e] at hm; exact hq.2 hm
    · rw [e] at hm; simp at hm
  · rcases ho with e | e
    · rw [e] at hz; exact h.out z hz
    · rw [e] at hz; cases hz
end Go.Proofs.Ytnggimkkjdipmaa
namespace Go.Proofs.Ytnggimkkjdipmaa
open Go.RowKit
set_option linter.unusedVariables false
set_option linter.unusedSimpArgs false
set_option maxHeartbeats 16000000
set_option maxRecDepth 100000
/-- A list of numbers, its room at least its length. -/
def NInC (w : World) (v : Value) (l : List Int) : Prop := ∃ o cap, v = .slice o l.length cap ∧ l.length ≤ cap ∧ NIn w v l
theorem NInC.nin {w : World} {v : Value} {l : List Int} (h : NInC w v l) : NIn w v l := by obtain ⟨_, _, _, _, h⟩ := h; exact h
theorem Row.ninc {w : World} {v : Value} {l : List Int} {bo : Option Nat} (h : Row 1 w v l.length (ints l) bo) : NInC w v l := by
  have hn := h.nin
  rcases h with ⟨_, h2, _, o, rfl⟩ | ⟨b, off, cap, hb, rfl, h3, _⟩
  · exact ⟨o, 0, by rw [h2], by omega, hn⟩
  · exact ⟨_, cap, rfl, h3, hn⟩
/-- What differ hands back. -/
def DiffR (r : Option (List Int)) (w : World) (e : Ending) (w' : World) : Prop := ∃ v, e = .returned (.tuple #[v, .bool r.isSome]) ∧ NInC w' v (r.getD []) ∧ Fr [] w w'
/-- The same; the word lies in a block of its own. -/
def DiffO (r : Option (List Int)) (w : World) (e : Ending) (w' : World) : Prop := ∃ v, e = .returned (.tuple #[v, .bool r.isSome]) ∧ NInC w' v (r.getD []) ∧ NInB (fun b => w.heap.size ≤ b) w' v (r.getD []) ∧ Fr [] w w'
theorem ninc_nil (w : World) : NInC w (.slice none 0 0) [] := ⟨none, 0, rfl, Nat.le_refl _, ⟨none, 0, rfl, fun i h => by simp at h⟩⟩
theorem nin_nil (w : World) (o : Option Addr) (c : Nat) : NIn w (.slice o 0 c) [] := ⟨o, c, rfl, fun i h => by simp at h⟩
theorem differ_own (A B : Tb) (va vb : Value) (a b : Int) (w : World) (hA : TIn w va A) (hB : TIn w vb B) (hVA : VT A) (hVB : VT B) (hev : A.ev = B.ev) (ha : 0 ≤ a ∧ a < A.st) (hb : 0 ≤ b ∧ b < B.st) :
    Calls Try.prog 61 #[va, .int .i64 a, vb, .int .i64 b] w (DiffO (differT A B a b) w) := by
  obtain ⟨ra, rfl, hRA⟩ := hA
  obtain ⟨rb, rfl, hRB⟩ := hB
  rw [show A.val ra = .agg #[.int .i64 A.st, .int .i64 A.ev, .int .i64 A.sr, ra] from rfl, show B.val rb = .agg #[.int .i64 B.st, .int .i64 B.ev, .int .i64 B.sr, rb] from rfl]
  obtain ⟨w1, hw1⟩ : ∃ x, w.alloc (.cells #[.int .i64 A.st, .int .i64 A.ev, .int .i64 A.sr, ra] TTab) = x := ⟨_, rfl⟩
  have P1 := Pt.newA w TTab #[.int .i64 A.st, .int .i64 A.ev, .int .i64 A.sr, ra]
  rw [hw1] at P1
  have F1 : Fr [] w w1 := by rw [← hw1]; exact (Fr.refl [] w).alloc _
  obtain ⟨b1, hb1⟩ : ∃ x, w.heap.size = x := ⟨_, rfl⟩
  rw [hb1] at P1
  obtain ⟨w2, hw2⟩ : ∃ x, w1.alloc (.cells #[.int .i64 B.st, .int .i64 B.ev, .int .i64 B.sr, rb] TTab) = x := ⟨_, rfl⟩
  have P2 := Pt.newA w1 TTab #[.int .i64 B.st, .int .i64 B.ev, .int .i64 B.sr, rb]
  rw [hw2] at P2
  have F2 : Fr [] w1 w2 := by rw [← hw2]; exact (Fr.refl [] w1).alloc _
  obtain ⟨b2, hb2⟩ : ∃ x, w1.heap.size = x := ⟨_, rfl⟩
  rw [hb2] at P2
  have Q1 := F2.pt P1 (by simp)
  have FA := F1.trans F2
  have hmm := run_makeMap (P := Try.prog) 126 w2
  obtain ⟨w3, hw3⟩ : ∃ x, w2.alloc (.map #[] 0) = x := ⟨_, rfl⟩
  have M3 := MapK.made pairK w2
  rw [hw3] at hmm M3
  have F23 : Fr [] w2 w3 := by rw [← hw3]; exact (Fr.refl [] w2).alloc _
  obtain ⟨bm, hbm⟩ : ∃ x, w2.heap.size = x := ⟨_, rfl⟩
  rw [hbm] at hmm M3
  have sa := hVA.st; have sb := hVB.st
  obtain ⟨w4, UP, M4, F34⟩ := M3.newW (P := Try.prog) (t := 126) (et := 4) lawPair (by kernel_rfl) pairK_inj (by simp) (by simp) (a, b) (keyPair _ (by dsimp only; omega) (by dsimp only; omega)) rfl (.bool true)
  simp only [pairK] at UP
  have F4 := (FA.trans F23).step F34 (fun z hz => .inr (by simp at hz; have := FA.size; omega))
  obtain ⟨oA, capA, rfl, hlA⟩ := hRA
  obtain ⟨oB, capB, rfl, hlB⟩ := hRB
  have I0 : DfI A B w b1 b2 bm (.slice oA A.rows.length capA) (.slice oB B.rows.length capB) 0 [((a, b), [])] [((a, b), .slice none 0 0)] (w4.alloc (.cells #[.int .i64 a, .int .i64 b, .slice none 0 0] TVis)) (.slice (some ⟨w4.heap.size, 0, none⟩) 1 1) (some w4.heap.size) := by
    have q1 := Q1.lt
    have q2 := P2.lt
    have s1 := F1.size
    have l1 := P1.lt
    have ml := M4.lt
    have fz : Fr [] w4 (w4.alloc (.cells #[.int .i64 a, .int .i64 b, .slice none 0 0] TVis)) := (Fr.refl [] w4).alloc _
    have PZ := Pt.newA w4 TVis #[.int .i64 a, .int .i64 b, .slice none 0 0]
    refine ⟨fz.pt (F34.pt (F23.pt Q1 (by simp)) (by simp; omega)) (by simp), fz.pt (F34.pt (F23.pt P2 (by simp)) (by simp; omega)) (by simp), ?_, rfl, M4.fr fz (by simp), fun k h1 h2 => ?_, fun z hz => by cases hz; exact ml, by omega, by omega, by omega, F4.trans fz⟩
    · refine .inr ⟨w4.heap.size, 0, 1, rfl, rfl, by simp, PZ.lt, by simp [tcells], fun j hj => ?_, fun j hj => ?_⟩
      · rw [Nat.zero_add, PZ.cell, PZ.free]
        have : j = 0 ∨ j = 1 ∨ j = 2 := by omega
        rcases this with rfl | rfl | rfl <;> exact ⟨rfl, rfl⟩
      · rw [Nat.zero_add, PZ.cell]; rfl
    · obtain rfl : k = 0 := by simp at h1; omega
      exact ⟨none, 0, rfl, fun i hi => by simp at hi⟩
  have bsA := hVA.rows
  have bsB := hVB.rows
  obtain ⟨X, hX⟩ : ∃ x, differT A B a b = x := ⟨_, rfl⟩
  rw [hX]
  have hO0 := DvOk.start ha hb
  have hX' := Lib.hid hX
  clear hX
  replace I0 := Lib.hid I0; replace hlA := Lib.hid hlA; replace hlB := Lib.hid hlB; replace P1 := Lib.hid P1; replace P2 := Lib.hid P2; replace Q1 := Lib.hid Q1; replace F1 := Lib.hid F1; replace F2 := Lib.hid F2; replace FA := Lib.hid FA; replace F23 := Lib.hid F23; replace F34 := Lib.hid F34; replace F4 := Lib.hid F4; replace M3 := Lib.hid M3; replace M4 := Lib.hid M4; replace hO0 := Lib.hid hO0; replace hVA := Lib.hid hVA; replace hVB := Lib.hid hVB; replace hev := Lib.hid hev
  go_enter Try.func61, Try.ntmps61
  go_wp2_with fail
  clear UP hmm
  clear hw1 hw2 hw3 hb1 hb2 hbm
  go_loopg [11] 1000 (fun k v11 wr => ∃ (i : Nat) (bo : Option Nat) (L : List Vis) (M : List ((Int × Int) × Value)), k + i = 1000 ∧ dfF A B k i L = X ∧ i ≤ L.length ∧ DvOk A B L ∧ DfI A B w b1 b2 bm (.slice oA A.rows.length capA) (.slice oB B.rows.length capB) i L M wr v11 bo)
  case atStart => exact ⟨0, _, _, _, rfl, hX'.out, by simp, hO0.out, I0.out⟩
  case round =>
    obtain ⟨i, bo, L, M, hk, hW, hi, hO, hI⟩ := hrel
    obtain ⟨wo, rfl⟩ : ∃ wo : World, wo = wr := ⟨_, rfl⟩
    obtain ⟨gq, rfl⟩ : ∃ g : Nat, g = gk := ⟨_, rfl⟩
    have hLe : L.length ≤ 900 := hO.le sa.2 sb.2
    by_cases hlt : i < L.length
    · obtain ⟨⟨⟨s0, t0⟩, word⟩, hLi⟩ : ∃ x, L[i] = x := ⟨_, rfl⟩
      have hs0 := hO.rng i hlt
      have hwl := hO.len i hlt
      rw [hLi] at hs0 hwl
      dsimp only at hs0 hwl
      obtain ⟨s, rfl⟩ : ∃ s : Nat, s0 = s := ⟨s0.toNat, by omega⟩
      obtain ⟨t, rfl⟩ : ∃ s : Nat, t0 = s := ⟨t0.toNat, by omega⟩
      have hsr : s < A.rows.length := by omega
      have hsrI : (s : Int) < A.rows.length := by omega
      have htr : t < B.rows.length := by omega
      have htrI : (t : Int) < B.rows.length := by omega
      obtain ⟨BB, off, u, rfl, hB, hcB, o2, cap2, rfl, hu⟩ := hlA.out s hsr
      obtain ⟨BC, off3, u3, rfl, hC, hcC, o3, cap3, rfl, hv⟩ := hlB.out t htr
      obtain ⟨row, hrow⟩ : ∃ row, A.rows[s] = row := ⟨_, rfl⟩
      obtain ⟨sow, hsow⟩ : ∃ row, B.rows[t] = row := ⟨_, rfl⟩
      have hrl2 := hVA.out.row _ (List.getElem_mem hsr)
      have hcells := hVA.out.cell _ (List.getElem_mem hsr)
      have hrl3 := hVB.out.row _ (List.getElem_mem htr)
      have hcells3 := hVB.out.cell _ (List.getElem_mem htr)
      have hev12 := hVA.out.ev
      rw [hrow] at hu hrl2 hcells hcB
      rw [hsow] at hv hrl3 hcells3 hcC
      have hrow12 : row.length ≤ 12 := by omega
      have hsl : row.length = sow.length := by have := hev.out; omega
      obtain ⟨g', rfl⟩ : ∃ g', gq = g' + 1 := ⟨gq - 1, by omega⟩
      have hW2 := hW
      rw [dfF_step A B g' i L hlt s t word hLi row sow (by rw [List.getD_eq_getElem?_getD, show ((s : Int)).toNat = s by omega, List.getElem?_eq_getElem hsr, hrow]; rfl) (by rw [List.getD_eq_getElem?_getD, show ((t : Int)).toNat = t by omega, List.getElem?_eq_getElem htr, hsow]; rfl)] at hW2
      obtain ⟨bq, oq, nq, cq, vw, rfl, hnq, hbq, cq1, cq2, cq3, hvn, hnq2, hMi, _⟩ := hI.head hlt
      rw [hLi] at cq1 cq2 hvn hMi
      dsimp only at cq1 cq2 hvn hMi
      obtain ⟨ov, cv, rfl⟩ : ∃ o c, vw = .slice o word.length c := by obtain ⟨o, c, e, _⟩ := hvn; exact ⟨o, c, e⟩
      obtain ⟨w5, hw5⟩ : ∃ x, wo.alloc (.cells #[.int .i64 (s : Int), .int .i64 (t : Int), .slice ov word.length cv] TVis) = x := ⟨_, rfl⟩
      have P5 := Pt.newA wo TVis #[.int .i64 (s : Int), .int .i64 (t : Int), .slice ov word.length cv]
      rw [hw5] at P5
      have F5 : Fr [] wo w5 := by rw [← hw5]; exact (Fr.refl [] wo).alloc _
      have hI5 := hI.frz F5
      have hvn5 := hvn.nin.fr F5
      obtain ⟨bv, hbv⟩ : ∃ x, wo.heap.size = x := ⟨_, rfl⟩
      rw [hbv] at P5
      have kt5 := hI5.p1.cell
      obtain ⟨R, hR⟩ : ∃ R, dfRow word 0 (row.zip sow) L = R := ⟨_, rfl⟩
      rw [hR] at hW2
      have hwl6 : word.length < 100000 := by omega
      replace hu := Lib.hid hu; replace hv := Lib.hid hv; replace hcells := Lib.hid hcells; replace hcells3 := Lib.hid hcells3; replace hW2 := Lib.hid hW2; replace hW := Lib.hid hW; replace hO := Lib.hid hO; replace hI := Lib.hid hI; replace hI5 := Lib.hid hI5; replace hrow := Lib.hid hrow; replace hsow := Lib.hid hsow; replace hLi := Lib.hid hLi; replace hcB := Lib.hid hcB; replace hcC := Lib.hid hcC; replace hnq2 := Lib.hid hnq2; replace hMi := Lib.hid hMi; replace hR := Lib.hid hR; replace P5 := Lib.hid P5; replace F5 := Lib.hid F5; replace hvn := Lib.hid hvn; replace hvn5 := Lib.hid hvn5; replace hsl := Lib.hid hsl; replace hrl2 := Lib.hid hrl2; replace hrl3 := Lib.hid hrl3
      go_wp2_with fail
      clear kt5 cq1 cq2 cq3 hw5
      have hbvm : bv ≠ bm := by have := hI.out.mp.lt; omega
      have hbvo : bv ∉ bo.toList := fun hm => by
        have := hI.out.q
        rw [show bo = some bv by simpa using hm] at this
        have := this.lt; omega
      replace hbv := Lib.hid hbv; replace hbvm := Lib.hid hbvm; replace hbvo := Lib.hid hbvo
      go_loopg [11, 38] (row.length + 1) (fun k v11 v38 wr => ∃ (j : Nat) (bo : Option Nat) (L2 : List Vis) (M2 : List ((Int × Int) × Value)), j ≤ row.length ∧ k + j = row.length + 1 ∧ v38 = .int .i64 j ∧ dfRow word j ((row.zip sow).drop j) L2 = R ∧ i < L2.length ∧ L2[i]? = some (((s : Int), (t : Int)), word) ∧ M2[i]? = some (((s : Int), (t : Int)), .slice ov word.length cv) ∧ DvOk A B L2 ∧ DfI A B w b1 b2 bm (.slice (some ⟨BB, off, none⟩) A.rows.length capA) (.slice (some ⟨BC, off3, none⟩) B.rows.length capB) i L2 M2 wr v11 bo ∧ Pt wr bv TVis [.int .i64 (s : Int), .int .i64 (t : Int), .slice ov word.length cv] ∧ bv ∉ bo.toList)
      case atStart => exact ⟨0, _, _, _, by omega, by omega, rfl, hR.out, hlt, by rw [List.getElem?_eq_getElem hlt, hLi.out], hMi.out, hO.out, hI5.out, P5.out, hbvo.out⟩
      case round =>
        obtain ⟨j, bo2, L2, M2, hj, hk3, rfl, hWj, hL2, hLi2, hMi2, hO2, hI2, hPv, hbv2⟩ := hrel
        obtain ⟨w0', rfl⟩ : ∃ x : World, x = wr := ⟨_, rfl⟩
        by_cases hltj : j < row.length
        · have hltJ : (j : Int) < row.length := by omega
          have hltE : (j : Int) < A.ev := by have := hrl2.out; omega
          have hltS : j < sow.length := by have := hsl.out; omega
          have hltSI : (j : Int) < sow.length := by omega
          obtain ⟨B2, off2, rfl, hB2, ha1, ha2⟩ := hu.out j hltj
          obtain ⟨B3, off4, rfl, hB3, hb1, hb2⟩ := hv.out j hltS
          have hce := hcells.out _ (List.getElem_mem hltj)
          have hcf := hcells3.out _ (List.getElem_mem hltS)
          have hsn := dfRow_step word row sow L2 j hltj hltS
          rw [hWj] at hsn
          obtain ⟨⟨x1, x2⟩, hx⟩ : ∃ x, row[j] = x := ⟨_, rfl⟩
          obtain ⟨⟨y1, y2⟩, hy⟩ : ∃ x, sow[j] = x := ⟨_, rfl⟩
          rw [hx] at ha1 ha2 hce hsn
          rw [hy] at hb1 hb2 hcf hsn
          dsimp only at ha1 ha2 hb1 hb2 hce hcf
          have c1 := hI2.fr.cell (p := ⟨BB, off + s, none⟩) hB (by simp)
          rw [hcB.out] at c1
          have c2 := hI2.fr.cell (p := ⟨BC, off3 + t, none⟩) hC (by simp)
          rw [hcC.out] at c2
          have c3 := hI2.fr.cell (p := ⟨B2, off2 + j * 2, none⟩) hB2 (by simp)
          rw [ha1] at c3
          have c4 := hI2.fr.cell (p := ⟨B2, off2 + j * 2 + 1, none⟩) hB2 (by simp)
          rw [ha2] at c4
          have c5 := hI2.fr.cell (p := ⟨B3, off4 + j * 2, none⟩) hB3 (by simp)
          rw [hb1] at c5
          have c6 := hI2.fr.cell (p := ⟨B3, off4 + j * 2 + 1, none⟩) hB3 (by simp)
          rw [hb2] at c6
          have kt := hI2.p1.cell
          have ku := hI2.p2.cell
          have kv := hPv.cell
          have hs2 := hI2.fr.size
          have l1 : BB < w0'.heap.size := by omega
          have l2 : BC < w0'.heap.size := by omega
          have l3 : B2 < w0'.heap.size := by omega
          have l4 : B3 < w0'.heap.size := by omega
          have l5 : b1 < w0'.heap.size := hI2.p1.lt
          have l6 : b2 < w0'.heap.size := hI2.p2.lt
          have l7 : bv < w0'.heap.size := hPv.lt
          obtain ⟨e1, e2, e3, e4, e5⟩ := hce
          obtain ⟨d1, d2, d3, d4, d5⟩ := hcf
          have SS : ∀ W, Fr [] w0' W → W.cell? ⟨b1, 3, none⟩ = some (.slice (some ⟨BB, off, none⟩) A.rows.length capA) ∧ W.cell? ⟨b2, 3, none⟩ = some (.slice (some ⟨BC, off3, none⟩) B.rows.length capB) ∧ W.cell? ⟨bv, 0, none⟩ = some (.int .i64 (s : Int)) ∧ W.cell? ⟨bv, 1, none⟩ = some (.int .i64 (t : Int)) ∧ W.cell? ⟨BB, off + s, none⟩ = some (.slice (some ⟨B2, off2, none⟩) row.length cap2) ∧ W.cell? ⟨BC, off3 + t, none⟩ = some (.slice (some ⟨B3, off4, none⟩) sow.length cap3) ∧ W.cell? ⟨B2, off2 + j * 2, none⟩ = some (.int .i64 x1) ∧ W.cell? ⟨B2, off2 + j * 2 + 1, none⟩ = some (.int .i64 x2) ∧ W.cell? ⟨B3, off4 + j * 2, none⟩ = some (.int .i64 y1) ∧ W.cell? ⟨B3, off4 + j * 2 + 1, none⟩ = some (.int .i64 y2) := fun W f => by
            refine ⟨?_, ?_, ?_, ?_, ?_, ?_, ?_, ?_, ?_, ?_⟩
            · rw [f.cell (p := ⟨b1, 3, none⟩) l5 (by simp), kt]; rfl
            · rw [f.cell (p := ⟨b2, 3, none⟩) l6 (by simp), ku]; rfl
            · rw [f.cell (p := ⟨bv, 0, none⟩) l7 (by simp), kv]; rfl
            · rw [f.cell (p := ⟨bv, 1, none⟩) l7 (by simp), kv]; rfl
            · rw [f.cell (p := ⟨BB, off + s, none⟩) l1 (by simp)]; exact c1
            · rw [f.cell (p := ⟨BC, off3 + t, none⟩) l2 (by simp)]; exact c2
            · rw [f.cell (p := ⟨B2, off2 + j * 2, none⟩) l3 (by simp)]; exact c3
            · rw [f.cell (p := ⟨B2, off2 + j * 2 + 1, none⟩) l3 (by simp)]; exact c4
            · rw [f.cell (p := ⟨B3, off4 + j * 2, none⟩) l4 (by simp)]; exact c5
            · rw [f.cell (p := ⟨B3, off4 + j * 2 + 1, none⟩) l4 (by simp)]; exact c6
          replace SS := Lib.hid SS
          clear ha1 ha2 hb1 hb2 hs2 c1 c2 c3 c4 c5 c6 kt ku kv l1 l2 l3 l4 l5 l6 l7
          replace hx := Lib.hid hx; replace hy := Lib.hid hy; replace hWj := Lib.hid hWj; replace e5 := Lib.hid e5; replace d5 := Lib.hid d5; replace hLi2 := Lib.hid hLi2; replace hMi2 := Lib.hid hMi2; replace hO2 := Lib.hid hO2; replace hsn := Lib.hid hsn; replace hI2 := Lib.hid hI2; replace hPv := Lib.hid hPv; replace hbv2 := Lib.hid hbv2
          go_upto_region 9 with fail
          go_cut [14, 15] from 41 to 60 (fun v14 v15 wx => ∃ bx b3, v14 = .pointer (some ⟨bx, 0, none⟩) ∧ v15 = .pointer (some ⟨b3, 0, none⟩) ∧ Pt wx bx TRow [.int .i64 x1, .int .i64 x2] ∧ Pt wx b3 TRow [.int .i64 y1, .int .i64 y2] ∧ Fr [] w0' wx)
          case first =>
            go_region_held3 (fun W => W.cell? ⟨b1, 3, none⟩ = some (.slice (some ⟨BB, off, none⟩) A.rows.length capA) ∧ W.cell? ⟨b2, 3, none⟩ = some (.slice (some ⟨BC, off3, none⟩) B.rows.length capB) ∧ W.cell? ⟨bv, 0, none⟩ = some (.int .i64 (s : Int)) ∧ W.cell? ⟨bv, 1, none⟩ = some (.int .i64 (t : Int)) ∧ W.cell? ⟨BB, off + s, none⟩ = some (.slice (some ⟨B2, off2, none⟩) row.length cap2) ∧ W.cell? ⟨BC, off3 + t, none⟩ = some (.slice (some ⟨B3, off4, none⟩) sow.length cap3) ∧ W.cell? ⟨B2, off2 + j * 2, none⟩ = some (.int .i64 x1) ∧ W.cell? ⟨B2, off2 + j * 2 + 1, none⟩ = some (.int .i64 x2) ∧ W.cell? ⟨B3, off4 + j * 2, none⟩ = some (.int .i64 y1) ∧ W.cell? ⟨B3, off4 + j * 2 + 1, none⟩ = some (.int .i64 y2))
              ((refine SS.out _ ?_; repeat (first | exact Fr.refl _ _ | refine Fr.drew ?_ | refine Fr.alloc ?_ _ | (refine Fr.setCell ?_ (.inr (by simp)) _))))
              (fail)
            all_goals
              go_wp2_with fail
              go_meet
              case rel =>
                first
                | exact ⟨_, _, rfl, rfl, ((Pt.newA w0' TRow #[.int .i64 x1, .int .i64 x2]).alloc _).drew, (Pt.newAt _ TRow #[.int .i64 y1, .int .i64 y2] (by simp)).drew, (((Fr.refl _ _).alloc _).alloc _).drew⟩
                | exact ⟨_, _, rfl, rfl, (Pt.newAt _ TRow #[.int .i64 x1, .int .i64 x2] (by simp)).drew, ((Pt.newA w0' TRow #[.int .i64 y1, .int .i64 y2]).alloc _).drew, (((Fr.refl _ _).alloc _).alloc _).drew⟩
          case rest =>
            obtain ⟨bx, b3, rfl, rfl, Px, Py, Fx⟩ := hcut
            clear SS
            obtain ⟨wx, rfl⟩ : ∃ x : World, x = wc := ⟨_, rfl⟩
            have hIx := hI2.out.frz Fx
            have Pv2 := Fx.pt hPv.out (by simp)
            have kv2 := Pv2.cell
            have hvx : NIn wx (.slice ov word.length cv) word := by
              have hml := hIx.mlen
              have h1 : i < M2.length := by omega
              have h2 := hIx.val i h1 hL2
              rw [show M2[i] = (((s : Int), (t : Int)), Value.slice ov word.length cv) by have := hMi2.out; rw [List.getElem?_eq_getElem h1] at this; exact Option.some.inj this] at h2
              rw [show L2[i] = (((s : Int), (t : Int)), word) by have := hLi2.out; rw [List.getElem?_eq_getElem hL2] at this; exact Option.some.inj this] at h2
              exact h2.nin
            have CL := clone_any _ word wx hvx (by omega)
            replace hIx := Lib.hid hIx; replace Pv2 := Lib.hid Pv2; replace hvx := Lib.hid hvx; replace CL := Lib.hid CL; replace Px := Lib.hid Px; replace Py := Lib.hid Py; replace Fx := Lib.hid Fx
            go_wp2_with fail
            refine CL.out.mono ?_
            rintro e w6 ⟨v6, b6, rfl, r6, hb6, f6⟩
            obtain ⟨v7, w7, b7, happ, r7, hb7, f7⟩ := r6.one (by omega) (j : Int)
            have F67 : Fr [] wx w7 := f6.step f7 (fun z hz => .inr (hb6 z (by simpa using hz)))
            have n7 : NInB (fun b => w0'.heap.size ≤ b) w7 v7 (word ++ [(j : Int)]) := r7.ninb (fun z hz => by
              have := Fx.out.size
              rcases hb7 with e | ⟨z', e, h⟩
              · rw [e] at hz; have := hb6 z hz; omega
              · rw [e] at hz; cases hz; have := f6.size; omega)
            have kx := (F67.pt Px.out (by simp)).cell
            have ky := (F67.pt Py.out (by simp)).cell
            have kv3 := F67.pt Pv2.out (by simp)
            have F07 := Fx.out.trans F67
            have hI7 := hIx.out.frz F67
            clear kv2
            replace r6 := Lib.hid r6; replace hb6 := Lib.hid hb6; replace f6 := Lib.hid f6; replace happ := Lib.hid happ; replace r7 := Lib.hid r7; replace hb7 := Lib.hid hb7; replace f7 := Lib.hid f7; replace F67 := Lib.hid F67; replace n7 := Lib.hid n7; replace kv3 := Lib.hid kv3; replace F07 := Lib.hid F07; replace hI7 := Lib.hid hI7
            go_upto_region 11 with (first | (at_builtin; refine wpList_append_run _ rfl _ _ _ rfl rfl rfl happ.out ?_) | fail)
            obtain ⟨df, hdf⟩ : ∃ q, diffR (x1, x2) (y1, y2) = q := ⟨_, rfl⟩
            have hsn1 := hsn.out
            rw [hdf] at hsn1
            replace hsn1 := Lib.hid hsn1
            go_cut [80] from 67 to 79 (fun v80 wz => v80 = .bool df ∧ wz = w7)
            case first =>
              as_aux_lemma =>
              have hdf2 : df = ((decide (x1 < 0) != decide (y1 < 0)) || (x2 != y2)) := by rw [← hdf]; rfl
              clear hdf
              replace hdf2 := Lib.hid hdf2
              obtain ⟨dx, hdx⟩ : ∃ q, decide (x1 < 0) = q := ⟨_, rfl⟩
              obtain ⟨dy, hdy⟩ : ∃ q, decide (y1 < 0) = q := ⟨_, rfl⟩
              cases dx
              all_goals
                first | have hx1 := of_decide_eq_true hdx | have hx1 := of_decide_eq_false hdx
                replace hdx := Lib.hid hdx
                cases dy
                all_goals
                  first | have hy1 := of_decide_eq_true hdy | have hy1 := of_decide_eq_false hdy
                  have hdy' := Lib.hid hdy
                  clear hdy
                  cases hq : x2 == y2
                  all_goals
                    have hq2 : (x2 != y2) = !(x2 == y2) := rfl
                    rw [hq] at hq2
                    simp only [Bool.not_true, Bool.not_false] at hq2
                    go_wp2_with fail
                    go_meet
                    case rel => exact ⟨by rw [hdf2.out, hdx.out, hdy'.out, hq2]; rfl, rfl⟩
            case rest =>
              obtain ⟨rfl, hwc⟩ := hcut
              subst hwc
              cases df
              · have hsn2 := hsn1.out
                rw [if_neg (by simp)] at hsn2
                have hdf' := hdf
                unfold diffR at hdf'
                simp only [Bool.or_eq_false_iff] at hdf'
                have hxy : ¬ x1 < 0 → ¬ y1 < 0 := fun h1 h2 => by
                  have := hdf'.1
                  simp only [h1, h2, decide_true, decide_false] at this
                  exact absurd this (by decide)
                obtain ⟨w8, hw8⟩ : ∃ x, wc.alloc (.cells #[.int .i64 x1, .int .i64 y1] 125) = x := ⟨_, rfl⟩
                have P8 := Pt.newA wc 125 #[.int .i64 x1, .int .i64 y1]
                rw [hw8] at P8
                have F78 : Fr [] wc w8 := by rw [← hw8]; exact (Fr.refl [] wc).alloc _
                have hI8 := hI7.out.frz F78
                have kx8 := (F78.pt (F67.out.pt Px.out (by simp)) (by simp)).cell
                have ky8 := (F78.pt (F67.out.pt Py.out (by simp)) (by simp)).cell
                have k8 := P8.cell
                have kv8 := F78.pt kv3.out (by simp)
                have F08 := F07.out.trans F78
                have n8 := n7.out.frq F78 (q' := fun b => w0'.heap.size ≤ b) (fun b _ hq => ⟨by simp, hq⟩)
                obtain ⟨bp, hbp⟩ : ∃ x, wc.heap.size = x := ⟨_, rfl⟩
                rw [hbp] at P8 k8
                have l8 : wx.heap.size ≤ bp := by rw [← hbp]; exact F67.out.size
                clear hdf hdf'
                replace P8 := Lib.hid P8; replace F78 := Lib.hid F78; replace hI8 := Lib.hid hI8; replace kv8 := Lib.hid kv8; replace F08 := Lib.hid F08; replace n8 := Lib.hid n8
                by_cases hx1 : x1 < 0
                · as_aux_lemma =>
                  have hpu : pushV word j (x1, x2) (y1, y2) L2 = L2 := by unfold pushV; rw [if_pos hx1]
                  rw [hpu] at hsn2
                  replace hsn2 := Lib.hid hsn2; replace hpu := Lib.hid hpu; replace hxy := Lib.hid hxy
                  go_wp2_with fail
                  go_roundg (gk - 1)
                  case measure => omega
                  case rel => exact ⟨j + 1, _, _, _, by omega, by omega, by go_num, hsn2.out.symm, hL2, hLi2.out, hMi2.out, hO2.out, hI8.out, kv8.out, hbv2.out⟩
                · have hy1 := hxy hx1
                  have hxr : 0 ≤ ((x1, y1) : Int × Int).1 ∧ ((x1, y1) : Int × Int).1 < A.st ∧ 0 ≤ ((x1, y1) : Int × Int).2 ∧ ((x1, y1) : Int × Int).2 < B.st := by dsimp only; omega
                  have LK := hI8.out.ask hO2.out sa.2 sb.2 (x1, y1) hxr (Fr.refl [] w8)
                  have hx1' : 0 ≤ x1 := by omega
                  by_cases hin : (x1, y1) ∈ L2.map (·.1)
                  · as_aux_lemma =>
                    have hpu : pushV word j (x1, x2) (y1, y2) L2 = L2 := by unfold pushV; rw [if_neg hx1, if_pos hin]
                    rw [hpu] at hsn2
                    rw [decide_eq_true hin] at LK
                    dsimp only at LK
                    replace hsn2 := Lib.hid hsn2; replace hpu := Lib.hid hpu; replace hxy := Lib.hid hxy; replace hin := Lib.hid hin; replace hxr := Lib.hid hxr
                    go_wp2_with fail
                    go_roundg (gk - 1)
                    case measure => omega
                    case rel => exact ⟨j + 1, _, _, _, by omega, by omega, by go_num, hsn2.out.symm, hL2, hLi2.out, hMi2.out, hO2.out, hI8.out, kv8.out, hbv2.out⟩
                  · as_aux_lemma =>
                    have hpu : pushV word j (x1, x2) (y1, y2) L2 = L2 ++ [((x1, y1), word ++ [(j : Int)])] := by unfold pushV; rw [if_neg hx1, if_neg hin]
                    rw [hpu] at hsn2
                    rw [decide_eq_false hin] at LK
                    obtain ⟨w9, UP, M9, f9⟩ := hI8.out.put hO2.out sa.2 sb.2 (x1, y1) hxr hin (Fr.refl [] w8)
                    have hO3 := hO2.out.step (x1, y1) (word ++ [(j : Int)]) hxr hin (by have := hO2.out.len i hL2; have h2 := hLi2.out; rw [List.getElem?_eq_getElem hL2] at h2; rw [Option.some.inj h2] at this; simp at this ⊢; omega)
                    have l9 := hI8.out.mp.lt
                    have k9 := (f9.pt P8.out (by simp; have := hI2.out.mp.lt; have := Fx.out.size; omega)).cell
                    obtain ⟨v', w10, bo', happ2, hI10, hK⟩ := hI2.out.add (by have := hO2.out.le sa.2 sb.2; omega) (by omega) (x1, y1) (word ++ [(j : Int)]) F08.out n8.out M9 f9
                    obtain ⟨hv10, hb10⟩ := hK _ _ _ hPv.out hbvm.out hbv2.out
                    dsimp only at LK UP happ2
                    obtain ⟨o7, c7, rfl⟩ : ∃ o c, v7 = .slice o (word ++ [(j : Int)]).length c := by obtain ⟨o, c, e, _⟩ := n7.out; exact ⟨o, c, e⟩
                    obtain ⟨n77, hn77⟩ : ∃ x, (word ++ [(j : Int)]).length = x := ⟨_, rfl⟩
                    rw [hn77] at happ2
                    have hL3 : (L2 ++ [((x1, y1), word ++ [(j : Int)])])[i]? = some (((s : Int), (t : Int)), word) := by rw [List.getElem?_append_left hL2]; exact hLi2.out
                    have hM3 : (M2 ++ [((x1, y1), Value.slice o7 (word ++ [(j : Int)]).length c7)])[i]? = some (((s : Int), (t : Int)), .slice ov word.length cv) := by rw [List.getElem?_append_left (by have := hI2.out.mlen; omega)]; exact hMi2.out
                    replace hsn2 := Lib.hid hsn2; replace hpu := Lib.hid hpu; replace hxy := Lib.hid hxy; replace hin := Lib.hid hin; replace hxr := Lib.hid hxr; replace M9 := Lib.hid M9; replace f9 := Lib.hid f9; replace hO3 := Lib.hid hO3; replace happ2 := Lib.hid happ2; replace hI10 := Lib.hid hI10; replace hv10 := Lib.hid hv10; replace hb10 := Lib.hid hb10; replace hL3 := Lib.hid hL3; replace hM3 := Lib.hid hM3; replace hn77 := Lib.hid hn77
                    clear hK
                    rw [hn77.out]
                    go_wp2_with (first | (at_builtin; refine wpList_append_run _ rfl _ _ _ rfl rfl rfl happ2.out ?_))
                    go_roundg (gk - 1)
                    case measure => omega
                    case rel => exact ⟨j + 1, _, _, _, by omega, by omega, by go_num, hsn2.out.symm, by simp; omega, hL3.out, hM3.out, hO3.out, hI10.out, hv10.out, hb10.out⟩
              · as_aux_lemma =>
                have hsn2 := hsn1.out
                rw [if_pos rfl] at hsn2
                have hX2 := hW2.out
                rw [hsn2] at hX2
                have hX3 : X = some (word ++ [(j : Int)]) := hX2.symm
                subst hX3
                have ND : DiffO (some (word ++ [(j : Int)])) w (.returned (.tuple #[v7, .bool true])) wc := ⟨_, rfl, r7.out.ninc, n7.out.frq (Fr.refl [] _) (fun b _ hq => ⟨by simp, Nat.le_trans hI2.out.fr.size hq⟩), hI7.out.fr⟩
                replace ND := Lib.hid ND; replace hsn2 := Lib.hid hsn2
                clear hX2
                go_wp2_with fail
                go_ret2
                exact ND.out
        · as_aux_lemma =>
          have hltJ : ¬ (j : Int) < A.ev := by have := hrl2.out; omega
          rw [List.drop_eq_nil_of_le (by simp; omega)] at hWj
          obtain ⟨bq, oq, nq, cq, vw, rfl, hnq, hbq, cq1, cq2, cq3, hvn', hnq2, _, hpop⟩ := hI2.head hL2
          have hR2 : Sum.inr L2 = R := hWj
          have hW3 := hW2.out
          rw [← hR2] at hW3
          have hW4 : dfF A B g' (i + 1) L2 = X := hW3
          have hle2 := hO2.le sa.2 sb.2
          clear hWj hR2 hW3 cq1 cq2 cq3
          replace hnq2 := Lib.hid hnq2; replace hvn' := Lib.hid hvn'
          replace hW4 := Lib.hid hW4; replace hO2 := Lib.hid hO2; replace hI2 := Lib.hid hI2; replace hLi2 := Lib.hid hLi2; replace hMi2 := Lib.hid hMi2; replace hPv := Lib.hid hPv; replace hbv2 := Lib.hid hbv2
          by_cases hc1 : cq = 1
          · obtain ⟨o', hI3⟩ := hpop _ rfl
            rw [if_pos hc1] at hI3
            subst hc1
            obtain rfl : nq = 0 := by omega
            replace hI3 := Lib.hid hI3
            clear hpop
            go_wp2_with fail
            go_roundg g'
            case measure => omega
            case rel => exact ⟨i + 1, _, _, _, by omega, hW4.out, by omega, hO2.out, hI3.out⟩
          · obtain ⟨o', hI3⟩ := hpop _ rfl
            rw [if_neg hc1] at hI3
            have hc2 : 1 < cq := by omega
            have hc3 : ¬ cq = 1 := hc1
            replace hI3 := Lib.hid hI3
            clear hpop hc1
            go_wp2_with fail
            go_roundg g'
            case measure => omega
            case rel => exact ⟨i + 1, _, _, _, by omega, hW4.out, by omega, hO2.out, hI3.out⟩
    · have hT : X = none := by rw [← hW, dfF_more _ _ _ _ _ (by omega)]
      obtain ⟨oo, n, co, rfl, hn0⟩ : ∃ oo n co, u11 = .slice oo n co ∧ n = 0 := by
        obtain ⟨oo, co, e⟩ := hI.q.len
        exact ⟨oo, _, co, e, by have := hI.mlen; simp; omega⟩
      subst hn0
      subst hT
      have ND : ∀ (e : Ending) (W : World), e = .returned (.tuple #[.slice none 0 0, .bool false]) → Fr [] w W → DiffO none w e W := fun e W h1 h2 => ⟨_, h1, ninc_nil _, ⟨none, 0, rfl, fun i hi => absurd hi (Nat.not_lt_zero _)⟩, h2⟩
      replace hI := Lib.hid hI; replace hO := Lib.hid hO; replace hW := Lib.hid hW; replace ND := Lib.hid ND
      go_wp2_with fail
      go_ret2
      exact ND.out _ _ rfl hI.out.fr
theorem differ_any (A B : Tb) (va vb : Value) (a b : Int) (w : World) (hA : TIn w va A) (hB : TIn w vb B) (hVA : VT A) (hVB : VT B) (hev : A.ev = B.ev) (ha : 0 ≤ a ∧ a < A.st) (hb : 0 ≤ b ∧ b < B.st) :
    Calls Try.prog 61 #[va, .int .i64 a, vb, .int .i64 b] w (DiffR (differT A B a b) w) :=
  (differ_own A B va vb a b w hA hB hVA hVB hev ha hb).mono fun e w' ⟨v, h1, h2, _, h3⟩ => ⟨v, h1, h2, h3⟩
end Go.Proofs.Ytnggimkkjdipmaa
