import Derived.Test.YtkkmjjddalpocaaDoorTok2
import Derived.Test.YtkkmjjddalpocaaDoorRound
import Derived.ChangeAlike
namespace Go.Proofs.YtkkmjjddalpocaaDoor
open Go.RowKit
set_option linter.unusedVariables false
set_option maxHeartbeats 800000
attribute [local go_sem] Oper.semAt_some
/-! ### Events -/
structure Ev where
  way : Int
  kind : Int
  a : Int
  b : Int
  c : Int
  data : ByteArray
def Ev.cells (e : Ev) : List Value := [.int .i64 e.way, .int .i64 e.kind, .int .i64 e.a, .int .i64 e.b, .int .i64 e.c, .string e.data]
def Ev.val (e : Ev) : Value := .agg #[.int .i64 e.way, .int .i64 e.kind, .int .i64 e.a, .int .i64 e.b, .int .i64 e.c, .string e.data]
abbrev TEv : TypeId := 34
/-- What is handed back: nothing, or one event in new memory. -/
def EvRes (B0 : Nat) (w : World) (v : Value) (l : List Ev) : Prop := (v = .slice none 0 0 ∧ l = []) ∨ ∃ B e, v = .slice (some ⟨B, 0, none⟩) 1 1 ∧ l = [e] ∧ Pt w B TEv e.cells ∧ B0 ≤ B
def urgeN (s : TS) (b : Int) (l : List Int) : TS := l.foldl (fun s t => s.setA t (max (s.getA t) b)) s
theorem urgeN_snoc (s : TS) (b : Int) (l : List Int) (i : Nat) (h : i < l.length) : urgeN s b (l.take (i + 1)) = (urgeN s b (l.take i)).setA l[i] (max ((urgeN s b (l.take i)).getA l[i]) b) := by
  unfold urgeN; rw [List.take_succ_eq_append_getElem h, List.foldl_append]; rfl
/-- please from the other side -/
def pleaseS (s : TS) (e : Ev) : TS := urgeN s e.b (toks (bits .and .i64 e.a s.mine))
def toldEv (k a b : Int) : Ev := ⟨0, k, a, b, 0, ByteArray.empty⟩
theorem urgeN_keeps (b : Int) (l : List Int) : ∀ s : TS, (urgeN s b l).made = s.made ∧ (urgeN s b l).mine = s.mine ∧ (urgeN s b l).theirs = s.theirs := by
  induction l with
  | nil => exact fun s => ⟨rfl, rfl, rfl⟩
  | cons t l ih =>
    intro s
    obtain ⟨h1, h2, h3⟩ := ih (s.setA t (max (s.getA t) b))
    have : (s.setA t (max (s.getA t) b)).made = s.made ∧ (s.setA t (max (s.getA t) b)).mine = s.mine ∧ (s.setA t (max (s.getA t) b)).theirs = s.theirs := by unfold TS.setA; (repeat' split) <;> exact ⟨rfl, rfl, rfl⟩
    exact ⟨h1.trans this.1, h2.trans this.2.1, h3.trans this.2.2⟩
set_option maxRecDepth 100000 in
set_option maxHeartbeats 2000000 in
theorem below_please (b : Nat) (s : TS) (e : Ev) (w : World) (hp : Pt w b TSide s.cells) (hT : Tab w) (hk : e.kind = 1) (a : Int) (ha : bits .and .i64 e.a s.mine = a) (h0 : 0 ≤ a) (h1 : a ≤ 15) :
    Calls Tryd.prog 27 #[.pointer (some ⟨b, 0, none⟩), e.val] w fun r w' => (∃ v, r = .returned v ∧ EvRes w.heap.size w' v (if a = 0 then [] else [toldEv 1 a e.b])) ∧ Pt w' b TSide (urgeN s e.b (toks a)).cells ∧ Fr [b] w w' := by
  obtain ⟨way, kind, ea, eb, ec, data⟩ := e
  dsimp only [Ev.val] at hk ha ⊢
  subst hk
  have hbne := hT.ne hp (by simp [TS.cells])
  have hlt := hp.lt
  have hlt1 : b < w.heap.size + 1 := by omega
  have hlt2 : b < w.heap.size + 1 + 1 := by omega
  have hlt3 : b < w.heap.size + 1 + 1 + 1 := by omega
  obtain ⟨smade, smine, stheirs, s0, s1, s2, s3⟩ := s
  have hc := hp.cell
  simp only [TS.cells] at hc
  dsimp only at ha
  refine (callsIn_wide (n := 5)).1 ?_
  refine callsIn_of_wp_marks Tryd.func27 rfl trivial ?_ rfl
  simp only [Tryd.ntmps27, List.size_toArray, List.length_cons, List.length_nil, Nat.reduceAdd, Nat.reduceSub, Array.replicate_succ, Array.replicate_zero, List.push_toArray, List.append_toArray, List.nil_append, List.cons_append]
  gi_wp2
  obtain ⟨w3, hw3⟩ : ∃ w3, ((w.alloc (.cells #[.pointer (some ⟨b, 0, none⟩)] 25)).alloc (.cells #[.int .i64 way, .int .i64 1, .int .i64 ea, .int .i64 eb, .int .i64 ec, .string data] TEv)).alloc (.cells #[.int .i64 0, .int .i64 1, .int .i64 0, .int .i64 0, .int .i64 0, .string ⟨#[]⟩] TEv) = w3 := ⟨_, rfl⟩
  have q0 : Pt w3 b TSide [.bool smade, .int .i64 smine, .int .i64 stheirs, .int .i64 s0, .int .i64 s1, .int .i64 s2, .int .i64 s3] := by rw [← hw3]; exact ((hp.alloc _).alloc _).alloc _
  have q1 : Pt w3 w.heap.size 25 [.pointer (some ⟨b, 0, none⟩)] := by rw [← hw3]; exact ((Pt.newA _ _ _).alloc _).alloc _
  have q2 : Pt w3 (w.heap.size + 1) TEv [.int .i64 way, .int .i64 1, .int .i64 ea, .int .i64 eb, .int .i64 ec, .string data] := by rw [← hw3, ← World.size_alloc w (.cells #[.pointer (some ⟨b, 0, none⟩)] 25)]; exact (Pt.newA _ _ _).alloc _
  have q3 : Pt w3 (w.heap.size + 1 + 1) TEv [.int .i64 0, .int .i64 1, .int .i64 0, .int .i64 0, .int .i64 0, .string ⟨#[]⟩] := by
    rw [← hw3]
    have := Pt.newA ((w.alloc (.cells #[.pointer (some ⟨b, 0, none⟩)] 25)).alloc (.cells #[.int .i64 way, .int .i64 1, .int .i64 ea, .int .i64 eb, .int .i64 ec, .string data] TEv)) TEv #[.int .i64 0, .int .i64 1, .int .i64 0, .int .i64 0, .int .i64 0, .string ⟨#[]⟩]
    rwa [World.size_alloc, World.size_alloc] at this
  have hf3 : Fr [b] w w3 := by rw [← hw3]; exact (((Fr.refl _ _).alloc _).alloc _).alloc _
  have hz : w3.heap.size = w.heap.size + 1 + 1 + 1 := by rw [← hw3]; simp
  rw [hw3]
  have HW := Lib.hid hw3
  clear hw3 hc
  refine wpIn_range_one (q := 7) rfl (enters_of Tryd.func40 (by kernel_rfl) rfl) (each_gives a h0 h1 (5 - 1))
    (fun i W => ((Pt W b TSide (urgeN ⟨smade, smine, stheirs, s0, s1, s2, s3⟩ eb ((toks a).take i)).cells ∧ Pt W w.heap.size 25 [.pointer (some ⟨b, 0, none⟩)]) ∧ (Pt W (w.heap.size + 1) TEv [.int .i64 way, .int .i64 1, .int .i64 ea, .int .i64 eb, .int .i64 ec, .string data] ∧ Pt W (w.heap.size + 1 + 1) TEv [.int .i64 0, .int .i64 1, .int .i64 0, .int .i64 0, .int .i64 0, .string ⟨#[]⟩])) ∧ Fr [b] w W)
    (fun i W h => hT.fr h.2 (by simp; omega) hT.lt)
    (OwnFrom.and (OwnFrom.and (OwnFrom.and (Pt.ownFrom _ _ _ _) (Pt.ownFrom _ _ _ (fun _ => _))) (OwnFrom.and (Pt.ownFrom _ _ _ (fun _ => _)) (Pt.ownFrom _ _ _ (fun _ => _)))) (Fr.ownFrom _ _ _ (by omega)))
    ⟨⟨⟨q0, q1⟩, q2, q3⟩, hf3⟩ ?assign ?body ?done
  case assign =>
    intro l x W K hK
    simp only [List.setIfInBounds_toArray, List.set_cons_succ, List.set_cons_zero] at hK ⊢
    gi_wp2
    exact hK
  case body =>
    rintro l i hi W ⟨⟨⟨p0, p1⟩, p2, p3⟩, hf⟩
    simp only [List.setIfInBounds_toArray, List.set_cons_succ, List.set_cons_zero]
    rw [urgeN_snoc _ eb (toks a) i hi]
    obtain ⟨q, hq⟩ : ∃ q, urgeN ⟨smade, smine, stheirs, s0, s1, s2, s3⟩ eb ((toks a).take i) = q := ⟨_, rfl⟩
    rw [hq] at p0 ⊢
    clear hq
    have hm := toks_mem a i hi
    obtain ⟨t, ht⟩ : ∃ t, (toks a)[i] = t := ⟨_, rfl⟩
    rw [ht] at hm ⊢
    clear ht
    obtain ⟨made, mine, theirs, a0, a1, a2, a3⟩ := q
    have c0 := p0.cell
    have f0 := p0.free
    have c1 := p1.cell
    have c2 := p2.cell
    simp only [TS.cells] at c0
    have hdone : ∀ (j : Nat) (v : Value) (cs : List Value), (TS.cells ⟨made, mine, theirs, a0, a1, a2, a3⟩).set j v = cs →
        KeepsFrom (w.heap.size + 1 + 1 + 1) W (W.setCell ⟨b, j, none⟩ v).drew ∧ ((Pt (W.setCell ⟨b, j, none⟩ v).drew b TSide cs ∧ Pt (W.setCell ⟨b, j, none⟩ v).drew w.heap.size 25 [.pointer (some ⟨b, 0, none⟩)]) ∧ Pt (W.setCell ⟨b, j, none⟩ v).drew (w.heap.size + 1) TEv [.int .i64 way, .int .i64 1, .int .i64 ea, .int .i64 eb, .int .i64 ec, .string data] ∧ Pt (W.setCell ⟨b, j, none⟩ v).drew (w.heap.size + 1 + 1) TEv [.int .i64 0, .int .i64 1, .int .i64 0, .int .i64 0, .int .i64 0, .string ⟨#[]⟩]) ∧ Fr [b] w (W.setCell ⟨b, j, none⟩ v).drew :=
      fun j v cs e => ⟨((KeepsOthers.setCell _ _ _).trans (KeepsOthers.drew _)).from _, ⟨⟨(p0.set' e).drew, (p1.ne (by simp; omega) _).drew⟩, (p2.ne (by simp; omega) _).drew, (p3.ne (by simp; omega) _).drew⟩, (hf.setCell (by simp) _).drew⟩
    have HD := Lib.hid hdone
    clear hdone p0 p1 p2 p3 hT q0 q1 q2 q3 hf3 hp
    rcases hm with rfl | rfl | rfl | rfl
    all_goals
      gi_wp2
      refine wpIn_round_still_tail 14 (by kernel_rfl) (by kernel_rfl) (by kernel_rfl) (by rintro ⟨_, _, h⟩; cases h.1) ?_
      simp only [List.take_succ_cons, List.take_zero, List.drop_succ_cons, List.drop_zero]
      repeat still_step
      refine wpStill_nil ?_
      go_wp2
      all_goals exact HD.out _ _ _ (by simp [TS.cells, TS.setA, TS.getA]; omega)
  case done =>
    rintro D W hD ⟨⟨⟨p0, p1⟩, p2, p3⟩, hf⟩ hK
    rw [List.take_of_length_le (Nat.le_refl _)] at p0
    have c2 := p2.cell
    have c3 := p3.cell
    have f3 := p3.free
    have hn : w.heap.size + 1 + 1 ≠ D := p3.ne_of_not_cells hK rfl
    have hbD : b ≠ D := p0.ne_of_not_cells hK rfl
    have hDw : w.heap.size ≤ D := by omega
    have hm : ∀ W2 : World, W2.heap[D]? = some (.deferred (some [])) → Marks w.heap.size [D] W2 := fun W2 h => (Marks.nil (w.heap.size) W2).cons h hDw (by simp)
    have HA := Lib.hid ha
    clear ha hT q0 q1 q2 q3 hf3 hp
    by_cases ha0 : a = 0
    · subst ha0
      gi_wp2
      refine leaves_marks [D] _ (hm _ ((KeepsOthers.setCell _ _ _).same D _ hK rfl)) (fun W' hk hf' => ⟨_, results_tmp rfl _ _ _, ⟨_, rfl, .inl ⟨rfl, rfl⟩⟩, ?_, ?_⟩)
      · exact (hk b (by simp; exact hbD)).trans (p0.ne (p := ⟨w.heap.size + 1 + 1, 3, none⟩) (by simp; omega) _)
      · exact (hf.setCell (by simp; omega) _).step hf' (by simp; omega)
    · have ha1 : (a == 0) = false := by simpa using ha0
      have hq1 : Pt ((W.setCell ⟨w.heap.size + 1 + 1, 3, none⟩ (.int .i64 eb)).setCell ⟨w.heap.size + 1 + 1, 2, none⟩ (.int .i64 a)) b TSide (urgeN ⟨smade, smine, stheirs, s0, s1, s2, s3⟩ eb (toks a)).cells := (p0.ne (p := ⟨w.heap.size + 1 + 1, 3, none⟩) (by simp; omega) _).ne (p := ⟨w.heap.size + 1 + 1, 2, none⟩) (by simp; omega) _
      have hq2 : ((W.setCell ⟨w.heap.size + 1 + 1, 3, none⟩ (.int .i64 eb)).setCell ⟨w.heap.size + 1 + 1, 2, none⟩ (.int .i64 a)).heap[D]? = some (.deferred (some [])) := (KeepsOthers.setCell _ _ _).same D _ ((KeepsOthers.setCell _ _ _).same D _ hK rfl) rfl
      have hq3 : Fr [b] w ((W.setCell ⟨w.heap.size + 1 + 1, 3, none⟩ (.int .i64 eb)).setCell ⟨w.heap.size + 1 + 1, 2, none⟩ (.int .i64 a)) := (hf.setCell (by simp; omega) _).setCell (by simp; omega) _
      have hzz : W.heap.size = ((W.setCell ⟨w.heap.size + 1 + 1, 3, none⟩ (.int .i64 eb)).setCell ⟨w.heap.size + 1 + 1, 2, none⟩ (.int .i64 a)).heap.size := by simp
      have H1 := Lib.hid hq1; have H2 := Lib.hid hq2; have H3 := Lib.hid hq3; have H4 := Lib.hid hzz
      clear hq1 hq2 hq3 hzz
      gi_wp2
      have hWD : D < W.heap.size := (Array.getElem?_eq_some_iff.1 hK).1
      generalize (W.setCell ⟨w.heap.size + 1 + 1, 3, none⟩ (.int .i64 eb)).setCell ⟨w.heap.size + 1 + 1, 2, none⟩ (.int .i64 a) = W4 at *
      refine leaves_marks [D] (W4.alloc _) (hm _ ((KeepsOthers.alloc _ _).same D _ H2.out rfl)) (fun W' hk hf' => ⟨_, results_tmp rfl _ _ _, ⟨_, rfl, .inr ⟨W.heap.size, toldEv 1 a eb, rfl, rfl, ?_, ?_⟩⟩, ?_, ?_⟩)
      · refine (hk _ (by simp; omega)).trans ?_
        rw [H4.out]; exact Pt.newA _ _ _
      · have := hf.size; omega
      · exact (hk b (by simp; exact hbD)).trans (Pt.alloc H1.out _)
      · exact (Fr.alloc H3.out _).step hf' (by simp; omega)
end Go.Proofs.YtkkmjjddalpocaaDoor
