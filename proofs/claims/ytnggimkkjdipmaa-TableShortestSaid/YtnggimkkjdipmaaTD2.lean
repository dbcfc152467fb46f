import Derived.Test.YtnggimkkjdipmaaTJ2
import Derived.Test.YtnggimkkjdipmaaTD8b
namespace Go.Proofs.Ytnggimkkjdipmaa
open Go.RowKit
set_option linter.unusedVariables false
set_option linter.unusedSimpArgs false
set_option maxHeartbeats 16000000
set_option maxRecDepth 100000
abbrev TVis : TypeId := 128
theorem uVis : Try.prog.underlying 129 = some (.slice TVis) := by kernel_rfl
noncomputable def iVis : TypeInfo := (Try.prog.info? TVis).getD default
theorem infoVis : Try.prog.info? TVis = some iVis := by kernel_rfl
noncomputable def zVis : Value := iVis.zero.getD (.int .i64 0)
theorem Row.addV {w : World} {v : Value} {l : List ((Int × Int) × Value)} {bo : Option Nat} (h : Row 3 w v l.length (tcells l) bo) (hn : l.length < 1000000) (x : (Int × Int) × Value) (h1 : x.2.oneCell' = true) :
    ∃ v' w' bo', (Builtin.append_ #[129, 129] 129 #[v, .slice (some ⟨w.heap.size, 0, none⟩) 1 1]).run Try.prog (w.alloc (.cells #[.int .i64 x.1.1, .int .i64 x.1.2, x.2] TVis)) = .ok v' w' ∧
      Row 3 w' v' (l ++ [x]).length (tcells (l ++ [x])) bo' ∧ (bo' = bo ∨ ∃ z, bo' = some z ∧ w.heap.size ≤ z) ∧ Fr bo.toList w w' := by
  have f1 : Fr [] w (w.alloc (.cells #[.int .i64 x.1.1, .int .i64 x.1.2, x.2] TVis)) := (Fr.refl [] w).alloc _
  have P1 := Pt.newA w TVis #[.int .i64 x.1.1, .int .i64 x.1.2, x.2]
  have hr1 := h.fr f1 (by simp)
  have hsrc : Src Try.prog 3 129 (.slice (some ⟨w.heap.size, 0, none⟩) 1 1) 1 (tcells [x]) (w.alloc (.cells #[.int .i64 x.1.1, .int .i64 x.1.2, x.2] TVis)) :=
    Src.ofSlice _ uVis ⟨w.heap.size, 0, none⟩ 1 1 _ rfl (fun j u hu => by rw [Addr.add_lit, P1.cell, Nat.zero_add]; simpa [tcells] using hu) (by intro u hu; simp [tcells] at hu; rcases hu with rfl | rfl | rfl; rfl; rfl; exact h1)
  obtain ⟨v', w', bo', hrun, hr, hb, hf⟩ := hr1.append (t := 129) (ty := 129) (e := TVis) (i := iVis) (z := zVis) uVis infoVis (by kernel_rfl) (by kernel_rfl) (by omega) (by kernel_rfl) (of_decide_eq_true (by kernel_rfl)) hn hsrc (by omega) (by omega)
  refine ⟨v', w', bo', hrun, ?_, ?_, (f1.mono (by simp)).trans hf⟩
  · rw [tcells_app, List.length_append]; exact hr
  · rcases hb with hb | hb
    · exact .inl hb
    · exact .inr ⟨_, hb, f1.size⟩
theorem Row.popT {w : World} {v : Value} {x : (Int × Int) × Value} {t : List ((Int × Int) × Value)} {bo : Option Nat} (h : Row 3 w v (x :: t).length (tcells (x :: t)) bo) :
    ∃ b off cap, v = .slice (some ⟨b, off, none⟩) (t.length + 1) cap ∧ t.length + 1 ≤ cap ∧ b < w.heap.size ∧ bo = some b ∧ w.cell? ⟨b, off, none⟩ = some (.int .i64 x.1.1) ∧ w.cell? ⟨b, off + 1, none⟩ = some (.int .i64 x.1.2) ∧ w.cell? ⟨b, off + 2, none⟩ = some x.2 ∧
      ∀ u, u = (if cap = 1 then Value.slice (some ⟨b, off, none⟩) t.length 0 else .slice (some ⟨b, off + 3, none⟩) t.length (cap - 1)) → ∃ o', Row 3 w u t.length (tcells t) o' ∧ (o' = bo ∨ o' = none) := by
  have hcl : tcells (x :: t) = [.int .i64 x.1.1, .int .i64 x.1.2, x.2] ++ tcells t := rfl
  rcases h with ⟨_, h2, _⟩ | ⟨b, off, cap, hb, hv, h3, h4, h5, h6, h7⟩
  · simp at h2
  · simp only [List.length_cons] at h3 h5 h7
    refine ⟨b, off, cap, hv, h3, h4, hb, ?_, ?_, ?_, fun u hu => ?_⟩
    · have := h7 0 (by omega)
      rw [Nat.add_zero] at this
      rw [this, hcl]; rfl
    · rw [h7 1 (by omega), hcl]; rfl
    · rw [h7 2 (by omega), hcl]; rfl
    · by_cases hc1 : cap = 1
      · rw [if_pos hc1] at hu
        have hr0 : t = [] := by cases t with | nil => rfl | cons _ _ => simp at h3; omega
        subst hr0
        rw [hu]
        exact ⟨none, Row.nil 3 w _, .inr rfl⟩
      · rw [if_neg hc1] at hu
        refine ⟨some b, .inr ⟨b, off + 3, cap - 1, rfl, hu, by omega, h4, tcells_len t, fun j hj => ?_, fun j hj => ?_⟩, .inl hb.symm⟩
        · rw [Nat.add_assoc]; exact h6 _ (by omega)
        · rw [Nat.add_assoc, h7 _ (by omega), hcl, List.getElem?_append_right (show 3 ≤ 3 + j by omega)]
          congr 1
          show 3 + j - 3 = j
          omega
noncomputable def fsPair : Array Field := match Try.prog.underlying 125 with | some (.struct fs) => fs | _ => #[]
noncomputable def fP0 : Field := fsPair.getD 0 default
noncomputable def fP1 : Field := fsPair.getD 1 default
theorem uPair : Try.prog.underlying 125 = some (.struct #[fP0, fP1]) := by kernel_rfl
theorem keyPair (p : Int × Int) (h1 : 0 ≤ p.1 ∧ p.1 ≤ 1000) (h2 : 0 ≤ p.2 ∧ p.2 ≤ 1000) : ∃ q, keyOf Try.prog 125 (pairK p) = some q := by
  have hu := uPair
  have t0 : fP0.type = 3 := by kernel_rfl
  have t1 : fP1.type = 3 := by kernel_rfl
  have o0 : fP0.offset = 0 := by kernel_rfl
  have o1 : fP1.offset = 1 := by kernel_rfl
  have n0 : (fP0.name != "_") = true := by kernel_rfl
  have n1 : (fP1.name != "_") = true := by kernel_rfl
  have hk : Try.prog.keyType 125 = true := by kernel_rfl
  have w1 : (Lit.int .i64 p.1).wf = true := by
    simp [Lit.wf, show IntKind.i64.min = -9223372036854775808 by decide +kernel, show IntKind.i64.max = 9223372036854775807 by decide +kernel]; omega
  have w2 : (Lit.int .i64 p.2).wf = true := by
    simp [Lit.wf, show IntKind.i64.min = -9223372036854775808 by decide +kernel, show IntKind.i64.max = 9223372036854775807 by decide +kernel]; omega
  have hs : ∃ n, Try.prog.types.size + 1 = n + 1 + 1 := ⟨Try.prog.types.size - 1, by have : 1 ≤ Try.prog.types.size := of_decide_eq_true (by kernel_rfl); omega⟩
  obtain ⟨n, hn⟩ := hs
  have hc : Try.prog.cellsOf 125 = 2 := by kernel_rfl
  have hc1 : Try.prog.cellsOf 3 = 1 := by kernel_rfl
  have hkl : ∃ ls, Try.prog.keyLits (Try.prog.types.size + 1) 125 (pairK p).cells.toList = some ls := by
    rw [hn]
    unfold Program.keyLits
    rw [hu]
    simp only [pairK, Value.cells, hc]
    rw [if_pos ⟨rfl, by simp [n0, n1]⟩]
    simp [t0, t1, o0, o1, hc1, Program.keyLits, uInt, w1, w2]
  obtain ⟨ls, hls⟩ := hkl
  have hf : (pairK p).formed Try.prog 125 = true := by
    simp [Value.formed, pairK, hu, hc]
  refine ⟨.string (keyBytes ls), ?_⟩
  unfold keyOf
  rw [hu]
  simp only [hk, hf, Bool.and_self, if_true, hls, Option.map_some]
theorem uMapV : Try.prog.underlying 126 = some (.map 125 4) := by kernel_rfl
/-- differ, in the midst. -/
structure DfI (A B : Tb) (w : World) (b1 b2 bm : Nat) (ra rb : Value) (i : Nat) (L : List Vis) (M : List ((Int × Int) × Value)) (wr : World) (v : Value) (bo : Option Nat) : Prop where
  p1 : Pt wr b1 TTab [.int .i64 A.st, .int .i64 A.ev, .int .i64 A.sr, ra]
  p2 : Pt wr b2 TTab [.int .i64 B.st, .int .i64 B.ev, .int .i64 B.sr, rb]
  q : Row 3 wr v (M.drop i).length (tcells (M.drop i)) bo
  keys : M.map (·.1) = L.map (·.1)
  mp : MapK pairK wr bm (prK (L.map (·.1)))
  val : ∀ k (h1 : k < M.length) (h2 : k < L.length), NInB (fun b => b ≠ bm ∧ b ∉ bo.toList) wr M[k].2 L[k].2
  out : ∀ z, bo = some z → bm < z
  g0 : w.heap.size ≤ b1
  g1 : b1 < b2
  g2 : b2 < bm
  fr : Fr [] w wr
variable {A B : Tb} {w : World} {b1 b2 bm : Nat} {ra rb : Value} {i : Nat} {L : List Vis} {M : List ((Int × Int) × Value)} {wr : World} {v : Value} {bo : Option Nat}
theorem DfI.mlen (h : DfI A B w b1 b2 bm ra rb i L M wr v bo) : M.length = L.length := by
  have := congrArg List.length h.keys
  simpa using this
theorem DfI.frz (h : DfI A B w b1 b2 bm ra rb i L M wr v bo) {W : World} (f : Fr [] wr W) : DfI A B w b1 b2 bm ra rb i L M W v bo :=
  ⟨f.pt h.p1 (by simp), f.pt h.p2 (by simp), h.q.fr f (by simp), h.keys, h.mp.fr f (by simp), fun k h1 h2 => (h.val k h1 h2).frq f (fun b _ hq => ⟨by simp, hq⟩), h.out, h.g0, h.g1, h.g2, h.fr.trans f⟩
theorem DvOk.keysV (hO : DvOk A B L) (h1 : A.st ≤ 30) (h2 : B.st ≤ 30) : ∀ x ∈ prK (L.map (·.1)), ∃ q, keyOf Try.prog 125 (pairK x.1) = some q := fun x hx => by
  have hm : x.1 ∈ L.map (·.1) := by rw [← prK_keys (L.map (·.1))]; exact List.mem_map.mpr ⟨x, hx, rfl⟩
  have := hO.pr.rng _ hm
  exact keyPair _ (by omega) (by omega)
theorem DfI.ask (h : DfI A B w b1 b2 bm ra rb i L M wr v bo) (hO : DvOk A B L) (h1 : A.st ≤ 30) (h2 : B.st ≤ 30) (x : Int × Int) (hx : 0 ≤ x.1 ∧ x.1 < A.st ∧ 0 ≤ x.2 ∧ x.2 < B.st) {W : World} (f : Fr [] wr W) :
    (Instr.lookup 126 (.map (some bm)) (.agg #[.int .i64 x.1, .int .i64 x.2]) false).run Try.prog W = .ok (.bool (decide (x ∈ L.map (·.1)))) W := by
  have := (h.mp.fr f (by simp)).lookW (P := Try.prog) (t := 126) lawPair uMapV pairK_inj (by rw [prK_keys]; exact hO.pr.nd) (hO.keysV h1 h2) (bool_zero W) x (keyPair _ (by omega) (by omega))
  rw [prK_get] at this
  exact this
theorem DfI.put (h : DfI A B w b1 b2 bm ra rb i L M wr v bo) (hO : DvOk A B L) (h1 : A.st ≤ 30) (h2 : B.st ≤ 30) (x : Int × Int) (hx : 0 ≤ x.1 ∧ x.1 < A.st ∧ 0 ≤ x.2 ∧ x.2 < B.st) (hn : x ∉ L.map (·.1)) {W : World} (f : Fr [] wr W) :
    ∃ w6, (Instr.mapUpdate 126 (.map (some bm)) (.agg #[.int .i64 x.1, .int .i64 x.2]) (.bool true)).run Try.prog W = .ok () w6 ∧ MapK pairK w6 bm (prK (L.map (·.1) ++ [x])) ∧ Fr [bm] W w6 := by
  obtain ⟨w6, UP, M6, f6⟩ := (h.mp.fr f (by simp)).newW (P := Try.prog) (t := 126) lawPair uMapV pairK_inj (by rw [prK_keys]; exact hO.pr.nd) (hO.keysV h1 h2) x (keyPair _ (by omega) (by omega)) (kget_none _ _ (by rw [prK_keys]; exact hn)) (.bool true)
  exact ⟨w6, UP, by rw [prK_snoc]; exact M6, f6⟩
theorem DfI.add (h : DfI A B w b1 b2 bm ra rb i L M wr v bo) (hl : L.length ≤ 1000) (hi : i ≤ L.length) (x : Int × Int) (word : List Int) {W w6 : World} (f : Fr [] wr W) {v5 : Value} (r5 : NInB (fun b => wr.heap.size ≤ b) W v5 word) (M6 : MapK pairK w6 bm (prK (L.map (·.1) ++ [x]))) (f6 : Fr [bm] W w6) :
    ∃ v' w9 bo', (Builtin.append_ #[129, 129] 129 #[v, .slice (some ⟨w6.heap.size, 0, none⟩) 1 1]).run Try.prog (w6.alloc (.cells #[.int .i64 x.1, .int .i64 x.2, v5] TVis)) = .ok v' w9 ∧
      DfI A B w b1 b2 bm ra rb i (L ++ [(x, word)]) (M ++ [(x, v5)]) w9 v' bo' ∧ ∀ z T cs, Pt wr z T cs → z ≠ bm → z ∉ bo.toList → Pt w9 z T cs ∧ z ∉ bo'.toList := by
  have hml := h.mlen
  have hgm : ∀ z, bo = some z → z ≠ bm := fun z hz => by have := h.out z hz; omega
  have l1 := h.p1.lt
  have l2 := h.p2.lt
  have l3 := h.mp.lt
  have g0 := h.g0
  have g1 := h.g1
  have g2 := h.g2
  have s1 := f.size
  have s6 := f6.size
  have lb : ∀ z, bo = some z → z < wr.heap.size := fun z hz => by have h3 := h.q; rw [hz] at h3; exact h3.lt
  have q6 := (h.q.fr f (by simp)).fr f6 (fun z hz => by simp; exact hgm z hz)
  have h1c : v5.oneCell' = true := by obtain ⟨o, cap, rfl, _⟩ := r5; rfl
  obtain ⟨v', w9, bo', hrun, hr, hb, hf⟩ := q6.addV (by simp; omega) (x, v5) h1c
  have hnb : ∀ b, b ≤ bm → b ∉ bo.toList := fun b hb1 hm => by have := h.out b (by simpa using hm); omega
  have key : ∀ b, b < w6.heap.size → (b ∉ bo.toList) → b ∉ bo'.toList := fun b hb1 hb2 hm => by
    rcases hb with e | ⟨z, e, hz⟩
    · rw [e] at hm; exact hb2 hm
    · rw [e] at hm; simp at hm; omega
  refine ⟨v', w9, bo', hrun, ⟨?_, ?_, ?_, ?_, ?_, fun k h1 h2 => ?_, fun z hz => ?_, g0, g1, g2, ?_⟩, fun z T cs hp h1 h2 => ⟨hf.pt (f6.pt (f.pt hp (by simp)) (by simp; exact h1)) h2, key z (by have := hp.lt; omega) h2⟩⟩
  · exact hf.pt (f6.pt (f.pt h.p1 (by simp)) (by simp; omega)) (hnb _ (by omega))
  · exact hf.pt (f6.pt (f.pt h.p2 (by simp)) (by simp; omega)) (hnb _ (by omega))
  · rw [List.drop_append_of_le_length (by omega)]; exact hr
  · rw [List.map_append, List.map_append, h.keys]; rfl
  · rw [List.map_append]
    exact M6.fr hf (hnb bm (Nat.le_refl _))
  · by_cases hk : k < M.length
    · rw [List.getElem_append_left hk, List.getElem_append_left (by omega : k < L.length)]
      have hv := h.val k hk (by omega)
      have hv8 := hv.frq f (q' := fun b => b ≠ bm ∧ b ∉ bo.toList) (fun b _ hq => ⟨by simp, hq⟩)
      have hv9 := hv8.frq f6 (q' := fun b => b ≠ bm ∧ b ∉ bo.toList ∧ b < w6.heap.size) (fun b hb0 hq => ⟨by simp; exact hq.1, hq.1, hq.2, by omega⟩)
      exact hv9.frq hf (fun b hb1 hq => ⟨hq.2.1, hq.1, key b hq.2.2 hq.2.1⟩)
    · obtain rfl : k = M.length := by simp at h1; omega
      have e1 : (M ++ [(x, v5)])[M.length] = (x, v5) := by simp
      have e2 : (L ++ [(x, word)])[M.length]'(by simp; omega) = (x, word) := by
        rw [List.getElem_append_right (by omega)]; simp [hml]
      rw [e1, e2]
      have hv9 := r5.frq f6 (q' := fun b => b ≠ bm ∧ b ∉ bo.toList ∧ b < w6.heap.size) (fun b hb0 hq => ⟨by simp; omega, by omega, fun hm => by have := lb b (by simpa using hm); omega, by omega⟩)
      exact hv9.frq hf (fun b hb1 hq => ⟨hq.2.1, hq.1, key b hq.2.2 hq.2.1⟩)
  · rcases hb with hb | ⟨z', hb, hz'⟩
    · rw [hb] at hz; exact h.out z hz
    · rw [hb] at hz; cases hz; omega
  · refine ((h.fr.trans f).step f6 (fun b hb1 => .inr ?_)).step hf (fun b hb1 => .inr ?_)
    · simp at hb1; omega
    · have := h.out b (by simpa using hb1); omega
/-- The head of the queue. -/
theorem DfI.head (h : DfI A B w b1 b2 bm ra rb i L M wr v bo) (hi : i < L.length) : ∃ b off n cap vw, v = .slice (some ⟨b, off, none⟩) (n + 1) cap ∧ n + 1 ≤ cap ∧ b < wr.heap.size ∧ wr.cell? ⟨b, off, none⟩ = some (.int .i64 L[i].1.1) ∧ wr.cell? ⟨b, off + 1, none⟩ = some (.int .i64 L[i].1.2) ∧ wr.cell? ⟨b, off + 2, none⟩ = some vw ∧ NInB (fun b => b ≠ bm ∧ b ∉ bo.toList) wr vw L[i].2 ∧ n + 1 = L.length - i ∧ M[i]? = some (L[i].1, vw) ∧
    ∀ u, u = (if cap = 1 then Value.slice (some ⟨b, off, none⟩) n 0 else .slice (some ⟨b, off + 3, none⟩) n (cap - 1)) → ∃ o', DfI A B w b1 b2 bm ra rb (i + 1) L M wr u o' := by
  have hml := h.mlen
  have hiM : i < M.length := by omega
  have hd : M.drop i = M[i] :: M.drop (i + 1) := List.drop_eq_getElem_cons hiM
  have hq := h.q
  rw [hd] at hq
  obtain ⟨b, off, cap, rfl, hc, hb, hbo, c1, c2, c3, hn⟩ := hq.popT
  have hk : M[i].1 = L[i].1 := by
    have := congrArg (·[i]?) h.keys
    simp [hiM, hi] at this
    exact this
  rw [hk] at c1 c2
  refine ⟨b, off, _, cap, _, rfl, hc, hb, c1, c2, c3, h.val i hiM hi, by simp; omega, by rw [List.getElem?_eq_getElem hiM, ← hk], fun u hu => ?_⟩
  obtain ⟨o', hr, ho⟩ := hn u hu
  refine ⟨o', h.p1, h.p2, hr, h.keys, h.mp, fun k h1 h2 => ?_, fun z hz => ?_, h.g0, h.g1, h.g2, h.fr⟩
  · refine (h.val k h1 h2).frq (Fr.refl [] wr) (fun b _ hq => ⟨by simp, hq.1, fun hm => ?_⟩)
    rcases ho with e | e
    · rw [e] at hm; exact hq.2 hm
    · rw [e] at hm; simp at hm
  · rcases ho with e | e
    · rw [e] at hz; exact h.out z hz
    · rw [e] at hz; cases hz
end Go.Proofs.Ytnggimkkjdipmaa
