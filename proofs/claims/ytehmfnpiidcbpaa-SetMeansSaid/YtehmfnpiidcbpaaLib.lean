import Derived.RangeFuncNested
import Derived.RangeFuncBound
import Derived.RangeFuncCalls
import Derived.RangeFuncLeaves
import Derived.RangeFuncBox
import Derived.Shelf.Abstract
import Derived.Shelf.RegionOpen
import Derived.WalkKit
import Derived.OwnWalkIn
import Derived.TacticsInMore
import Derived.LoopNIn
import Derived.LoopIn
import Derived.Lib.Hide
namespace Go.Proofs.Ytehmfnpiidcbpaa
open Go.RowKit
set_option linter.unusedVariables false

/-! ### Blocks that are known whole -/
/-- Block b holds just these cells, none of them frozen. -/
def Pt (w : World) (b : Nat) (T : TypeId) (cs : List Value) : Prop := w.heap[b]? = some (.cells cs.toArray T (0, 0))
theorem Pt.lt {w : World} {b : Nat} {T : TypeId} {cs : List Value} (h : Pt w b T cs) : b < w.heap.size := (Array.getElem?_eq_some_iff.1 h).1
theorem Pt.cell {w : World} {b : Nat} {T : TypeId} {cs : List Value} (h : Pt w b T cs) : ∀ j, w.cell? ⟨b, j, none⟩ = cs[j]? := fun j => by
  simp [World.cell?, show w.heap[b]? = _ from h]
theorem Pt.free {w : World} {b : Nat} {T : TypeId} {cs : List Value} (h : Pt w b T cs) : ∀ j, w.frozen? ⟨b, j, none⟩ = false := fun j => by
  simp [World.frozen?, show w.heap[b]? = _ from h]
theorem Pt.alloc {w : World} {b : Nat} {T : TypeId} {cs : List Value} (h : Pt w b T cs) (o : Obj) : Pt (w.alloc o) b T cs := (Below.heap_alloc w o b h.lt).trans h
theorem Pt.new (w : World) (T : TypeId) (cs : List Value) : Pt (w.alloc (.cells cs.toArray T)) w.heap.size T cs := World.alloc_heap_new w _
theorem Pt.newA (w : World) (T : TypeId) (cs : Array Value) : Pt (w.alloc (.cells cs T)) w.heap.size T cs.toList := World.alloc_heap_new w _
theorem Pt.newAt (w : World) (T : TypeId) (cs : Array Value) {n : Nat} (hn : n = w.heap.size) : Pt (w.alloc (.cells cs T)) n T cs.toList := by subst hn; exact World.alloc_heap_new w _
theorem Pt.drew {w : World} {b : Nat} {T : TypeId} {cs : List Value} (h : Pt w b T cs) : Pt w.drew b T cs := h
theorem Pt.ne {w : World} {b : Nat} {T : TypeId} {cs : List Value} (h : Pt w b T cs) {p : Addr} (hp : b ≠ p.block) (v : Value) : Pt (w.setCell p v) b T cs := (Below.heap_setCell w p v b hp).trans h
theorem Pt.set {w : World} {b : Nat} {T : TypeId} {cs : List Value} (h : Pt w b T cs) (j : Nat) (v : Value) : Pt (w.setCell ⟨b, j, none⟩ v) b T (cs.set j v) := by
  unfold Pt at h ⊢
  have hlt := (Array.getElem?_eq_some_iff.1 h).1
  have h' : w.heap[b] = .cells cs.toArray T (0, 0) := (Array.getElem?_eq_some_iff.1 h).2
  show (w.heap.modify b _)[b]? = _
  rw [Array.getElem?_eq_getElem (by rw [Array.size_modify]; exact hlt), Array.getElem_modify_self, h']
  simp
theorem Pt.set' {w : World} {b : Nat} {T : TypeId} {cs cs' : List Value} {j : Nat} {v : Value} (h : Pt w b T cs) (e : cs.set j v = cs') : Pt (w.setCell ⟨b, j, none⟩ v) b T cs' := e ▸ h.set j v
theorem Pt.boxed {w : World} {b : Nat} {T : TypeId} {v : Value} (h : Pt w b T [v]) : Boxed w b T v := h
theorem Pt.ownFrom {β : Type} (B b : Nat) (T : TypeId) (f : β → List Value) : OwnFrom B (fun s W => Pt W b T (f s)) := fun s X Y row hs hg hrow => by
  refine (hg.block b (Pt.lt hs) ?_).trans hs
  intro e
  obtain ⟨o', ho', hc⟩ := (hrow _ e.symm).2
  rw [show X.heap[b]? = _ from hs] at ho'; cases ho'; cases hc
theorem Pt.putObj {W : World} {b : Nat} {T : TypeId} {cs : List Value} (h : Pt W b T cs) {l : Nat} {o : Obj} (o' : Obj) (hl : W.heap[l]? = some o) (ho : o.isCells = false) : Pt (W.putObj l o') b T cs :=
  (World.putObj_heap_other (fun e => by subst e; rw [show W.heap[b]? = _ from h] at hl; cases hl; cases ho)).trans h
theorem Pt.at {W : World} {b : Nat} {T : TypeId} {cs : List Value} (h : W.heap[b]? = some (.cells cs.toArray T (0, 0))) : Pt W b T cs := h

/-! ### What a call leaves -/
/-- The blocks that were there lie as they lay, but for those of ex. -/
structure Fr (ex : List Nat) (w w' : World) : Prop where
  os : w'.os = w.os
  tape : w'.tape = w.tape
  output : w'.output = w.output
  size : w.heap.size ≤ w'.heap.size
  block : ∀ k, k < w.heap.size → k ∉ ex → w'.heap[k]? = w.heap[k]?
theorem Fr.refl (ex : List Nat) (w : World) : Fr ex w w := ⟨rfl, rfl, rfl, Nat.le_refl _, fun _ _ _ => rfl⟩
theorem Fr.trans {ex : List Nat} {a b c : World} (h : Fr ex a b) (k : Fr ex b c) : Fr ex a c :=
  ⟨k.os.trans h.os, k.tape.trans h.tape, k.output.trans h.output, Nat.le_trans h.size k.size, fun i hi hx => (k.block i (Nat.lt_of_lt_of_le hi h.size) hx).trans (h.block i hi hx)⟩
/-- What is left out of the second step may also be new. -/
theorem Fr.step {ex ex' : List Nat} {a b c : World} (h : Fr ex a b) (k : Fr ex' b c) (hs : ∀ x ∈ ex', x ∈ ex ∨ a.heap.size ≤ x) : Fr ex a c :=
  ⟨k.os.trans h.os, k.tape.trans h.tape, k.output.trans h.output, Nat.le_trans h.size k.size, fun i hi hx => (k.block i (Nat.lt_of_lt_of_le hi h.size) (fun hm => by rcases hs i hm with h1 | h1; exact hx h1; omega)).trans (h.block i hi hx)⟩
theorem Fr.mono {ex ex' : List Nat} {w w' : World} (h : Fr ex w w') (hs : ∀ x ∈ ex, x ∈ ex') : Fr ex' w w' := ⟨h.os, h.tape, h.output, h.size, fun k hk hx => h.block k hk (fun hm => hx (hs k hm))⟩
theorem Fr.drew {ex : List Nat} {a w : World} (h : Fr ex a w) : Fr ex a w.drew := ⟨h.os, h.tape, h.output, h.size, h.block⟩
theorem Fr.drewN {ex : List Nat} {a w : World} (h : Fr ex a w) (n : Nat) : Fr ex a (w.drewN n) := ⟨h.os, h.tape, h.output, h.size, h.block⟩
theorem Fr.alloc {ex : List Nat} {a w : World} (h : Fr ex a w) (o : Obj) : Fr ex a (w.alloc o) :=
  h.trans ⟨rfl, rfl, rfl, by simp, fun k hk _ => Below.heap_alloc _ _ _ hk⟩
theorem Fr.setCell {ex : List Nat} {a w : World} (h : Fr ex a w) {p : Addr} (hp : p.block ∈ ex ∨ a.heap.size ≤ p.block) (u : Value) : Fr ex a (w.setCell p u) :=
  ⟨h.os, h.tape, h.output, Nat.le_trans h.size (by simp [World.setCell]), fun k hk hx => (Below.heap_setCell _ _ _ _ (fun e => by subst e; rcases hp with h1 | h1; exact hx h1; omega)).trans (h.block k hk hx)⟩
theorem Fr.putObj {ex : List Nat} {a w : World} (h : Fr ex a w) {l : Nat} (hl : a.heap.size ≤ l) (o : Obj) : Fr ex a (w.putObj l o) :=
  ⟨h.os, h.tape, h.output, Nat.le_trans h.size (by simp [World.putObj]), fun k hk hx => (World.putObj_heap_other (by omega)).trans (h.block k hk hx)⟩
theorem Fr.below {ex : List Nat} {w w' : World} (h : Fr ex w w') {n : Nat} (hn : n ≤ w.heap.size) (hx : ∀ x ∈ ex, n ≤ x) : Below n w w' :=
  ⟨h.os, h.tape, h.output, h.size, fun k hk => h.block k (by omega) (fun hm => by have := hx k hm; omega)⟩
theorem Fr.ofBelow {ex : List Nat} {w w' : World} (h : Below w.heap.size w w') : Fr ex w w' := ⟨h.os, h.tape, h.output, h.size, fun k hk _ => h.block k hk⟩
theorem Fr.ofGrown {ex : List Nat} {a w w' : World} {row : Option Nat} (h : Fr ex a w) (hg : w.grownBy w' row) (hr : ∀ k, row = some k → k ∈ ex ∨ a.heap.size ≤ k) : Fr ex a w' :=
  ⟨hg.os.trans h.os, hg.tape.trans h.tape, hg.output.trans h.output, Nat.le_trans h.size hg.size, fun k hk hx => (hg.block k (Nat.lt_of_lt_of_le hk h.size) (fun e => by rcases hr k e.symm with h1 | h1; exact hx h1; omega)).trans (h.block k hk hx)⟩
theorem Fr.pt {ex : List Nat} {w w' : World} (h : Fr ex w w') {b : Nat} {T : TypeId} {cs : List Value} (hp : Pt w b T cs) (hx : b ∉ ex) : Pt w' b T cs := (h.block b hp.lt hx).trans hp
theorem Fr.cell {ex : List Nat} {w w' : World} (h : Fr ex w w') {p : Addr} (hp : p.block < w.heap.size) (hx : p.block ∉ ex) : w'.cell? p = w.cell? p := World.cell?_of_block (w := w) (h.block p.block hp hx)
theorem Fr.frozen {ex : List Nat} {w w' : World} (h : Fr ex w w') {p : Addr} (hp : p.block < w.heap.size) (hx : p.block ∉ ex) : w'.frozen? p = w.frozen? p := World.frozen?_of_block (w := w) (h.block p.block hp hx)
theorem Fr.ownFrom {β : Type} (ex : List Nat) (w₀ : World) (B : Nat) (hB : w₀.heap.size ≤ B) : OwnFrom B (fun (_ : β) W => Fr ex w₀ W) := fun s X Y row hs hg hr =>
  hs.ofGrown hg (fun k e => .inr (Nat.le_trans hB (hr k e).1))

/-! ### Marks that ranges over functions leave -/
def mk0 (D : Nat) : Deferred := { target := .collected D, args := #[] }
structure Marks (B : Nat) (Ds : List Nat) (W : World) : Prop where
  nodup : Ds.Nodup
  ge : ∀ D ∈ Ds, B ≤ D
  at_ : ∀ D ∈ Ds, W.heap[D]? = some (.deferred (some []))
theorem Marks.lt {B : Nat} {Ds : List Nat} {W : World} (h : Marks B Ds W) : ∀ D ∈ Ds, D < W.heap.size := fun D hD => (Array.getElem?_eq_some_iff.1 (h.at_ D hD)).1
theorem Marks.setCell {B : Nat} {Ds : List Nat} {W : World} (h : Marks B Ds W) (a : Addr) (v : Value) : Marks B Ds (W.setCell a v) := ⟨h.nodup, h.ge, fun D hD => (KeepsOthers.setCell W a v).same D _ (h.at_ D hD) rfl⟩
theorem Marks.alloc {B : Nat} {Ds : List Nat} {W : World} (h : Marks B Ds W) (o : Obj) : Marks B Ds (W.alloc o) := ⟨h.nodup, h.ge, fun D hD => (KeepsOthers.alloc W o).same D _ (h.at_ D hD) rfl⟩
theorem Marks.drew {B : Nat} {Ds : List Nat} {W : World} (h : Marks B Ds W) : Marks B Ds W.drew := ⟨h.nodup, h.ge, h.at_⟩
theorem Marks.nil (B : Nat) (W : World) : Marks B [] W := ⟨List.nodup_nil, by simp, by simp⟩
theorem Marks.cons {B : Nat} {Ds : List Nat} {W : World} (h : Marks B Ds W) {D : Nat} (hD : W.heap[D]? = some (.deferred (some []))) (hB : B ≤ D) (hn : D ∉ Ds) : Marks B (D :: Ds) W :=
  ⟨List.nodup_cons.2 ⟨hn, h.nodup⟩, by simpa [hB] using h.ge, by simpa [hD] using h.at_⟩
theorem Marks.fr {B : Nat} {Ds : List Nat} {W W' : World} (h : Marks B Ds W) {ex : List Nat} (hf : Fr ex W W') (hx : ∀ D ∈ Ds, D ∉ ex) : Marks B Ds W' := ⟨h.nodup, h.ge, fun D hD => (hf.block D (h.lt D hD) (hx D hD)).trans (h.at_ D hD)⟩
/-- The way out of a function with marks of loops over functions: the marks are shut. -/
theorem leaves_marks {F : Fence} {n : Nat} {P : Program} {fn : Func} {tmps : Array Value} {R : Ending → World → Prop} {B : Nat} (Ds : List Nat) : ∀ (W : World), Marks B Ds W →
    (∀ W', (∀ k, k ∉ Ds → W'.heap[k]? = W.heap[k]?) → Fr Ds W W' → LeavesIn F n P fn tmps R [] .returning W') → LeavesInM F n P fn tmps R (Ds.map mk0) .returning W := by
  induction Ds with
  | nil => exact fun W _ h => h W (fun _ _ => rfl) (Fr.refl _ _)
  | cons D Ds ih =>
    intro W hM h
    have hD := hM.at_ D (by simp)
    refine ⟨by simp, .inl ⟨D, _, rfl, run_takeDeferred hD, ?_⟩⟩
    refine ih _ ⟨(List.nodup_cons.1 hM.nodup).2, fun D' h' => hM.ge D' (by simp [h']), fun D' h' => ?_⟩ fun W' hk hb => ?_
    · exact (World.putObj_heap_other (fun e => (List.nodup_cons.1 hM.nodup).1 (by rw [← e]; exact h'))).trans (hM.at_ D' (by simp [h']))
    · have h1 : Fr (D :: Ds) W (W.putObj D (.deferred none)) := ⟨rfl, rfl, rfl, by simp [World.putObj], fun k _ hx => World.putObj_heap_other (fun e => hx (by simp [e]))⟩
      exact h W' (fun k hx => (hk k (fun hm => hx (by simp [hm]))).trans (World.putObj_heap_other (fun e => hx (by simp [e])))) (h1.trans (hb.mono (fun x hx => by simp [hx])))

/-! ### A range over a function that gives a known list, the body never leaving -/
/-- The iterator gives the list xs, one by one, whatever the loop does with each; G: what it wants of the world. -/
def Gives {α : Type} (m : Nat) (P : Program) (gf : Nat) (fa lb : Array Value) (encs : α → Array Value) (xs : List α) (G : World → Prop) : Prop :=
  ∀ (l : Nat) (J : Nat → World → Prop) (W : World), (∀ i W, J i W → G W) → J 0 W →
    (∀ i (h : i < xs.length) W1, J i W1 → YieldAt Fence.wide (m - 1) P l (encs xs[i]) W1 fun e W' => e = .returned (.bool true) ∧ J (i + 1) W') →
    CallsIn Fence.wide m P gf (fa ++ #[.func (.yield l) #[] #[]] ++ lb) W fun e W' => (∃ v, e = .returned v) ∧ J xs.length W'

theorem wpIn_range_list {α : Type} {n : Nat} {P : Program} {g : Operand} {ps : Array Tmp} {assign body : Code} {Q : Exit → Act → World → Prop} {a : Act} {w : World}
    {gf : Nat} {fa lb : Array Value} (hg : a.eval g = .func (.func gf) fa lb) (eg : ∀ args w, (callFunc gf args).run P w = .ok (.enter gf args) w)
    {encs : α → Array Value} {xs : List α} {G : World → Prop} (hit : Gives (n - 1) P gf fa lb encs xs G) (hps : ∀ x, (encs x).size = ps.size)
    (I : Nat → World → Prop) (hG : ∀ i W, I i W → G W) (hI : OwnFrom w.heap.size I) (h0 : I 0 w) (a₁ : α → Act)
    (hassign : ∀ (l : Nat) (x : α) (W : World) (K : Act → World → Prop), K (a₁ x) W →
      assign.wpIn (Fence.wide.inRound l) (n - 1 - 1) P (Exit.then K (fun _ _ _ => False)) { tmps := (ps.zip (encs x)).foldl (fun t (p, v) => t.setIfInBounds p v) a.tmps, defers := [] } W)
    (hbody : ∀ (l : Nat) (i : Nat) (h : i < xs.length) (W : World), I i W → body.wpIn (Fence.wide.inRound l) (n - 1 - 1) P (fun e _ W' => e = .normal ∧ KeepsFrom w.heap.size W W' ∧ I (i + 1) W') (a₁ xs[i]) W)
    (hdone : ∀ (D : Nat) (W : World), w.heap.size ≤ D → I xs.length W → W.heap[D]? = some (.deferred (some [])) → Q .normal { a with defers := { target := .collected D, args := #[] } :: a.defers } W) :
    (Code.rangeFunc g ps assign body).wpIn Fence.wide n P Q a w := by
  refine wpIn_rangeFunc ?_
  intro fn hfn
  obtain ⟨rec, hrec⟩ : ∃ rec : LoopState → Option Code → Loop, rec = fun st pe => { state := st, pending := pe, fn, tmps := a.tmps, params := ps, assign, body, defers := w.heap.size } := ⟨_, rfl⟩
  obtain ⟨W1, hW1⟩ : ∃ W1, (w.alloc (.deferred (some []))).alloc (.loop (rec .ready none)) = W1 := ⟨_, rfl⟩
  have hL1 : W1.heap[w.heap.size + 1]? = some (.loop (rec .ready none)) := by
    rw [← hW1]; have := World.alloc_heap_new (w.alloc (.deferred (some []))) (.loop (rec .ready none)); rwa [World.size_alloc] at this
  have hK1 : W1.heap[w.heap.size]? = some (.deferred (some [])) := by
    rw [← hW1]; exact (Below.heap_alloc _ _ _ (by simp)).trans (World.alloc_heap_new w _)
  have hI1 : I 0 W1 := by rw [← hW1]; exact hI.alloc _ (hI.alloc _ h0)
  refine ⟨w.heap.size + 1, [{ target := .collected w.heap.size, args := #[] }], W1, { target := .fn (.func gf) lb, args := fa ++ #[.func (.yield (w.heap.size + 1)) #[] #[]] }, W1, gf,
    fa ++ #[.func (.yield (w.heap.size + 1)) #[] #[]] ++ lb, W1, ?_, ?_, ?_, ?_, fun h => by simp [Fence.wide] at h, ?_⟩
  · rw [← hW1, hrec]; exact run_enterLoop_outer _ _ _ _ _
  · simp only [resolve, hg]
    simp [go_sem]
  · intro f' _; trivial
  · simp [invoke, go_sem, eg]
  · refine (hit (w.heap.size + 1)
      (fun i W => I i W ∧ W.heap[w.heap.size + 1]? = some (.loop (rec .ready none)) ∧ W.heap[w.heap.size]? = some (.deferred (some [])))
      W1 (fun i W h => hG i W h.1) ⟨hI1, hL1, hK1⟩ ?_).mono ?_
    · rintro i hi W ⟨hi', hl, hk⟩
      have hlt : w.heap.size + 1 < W.heap.size := (Array.getElem?_eq_some_iff.1 hl).1
      have hy := run_yield (P := P) (args := encs xs[i]) hl (by rw [hrec]; exact hps _)
      rw [hrec] at hy
      refine ⟨fn, _, assign, body, hy, roundIn_of_wpIn hfn (hassign _ _ W _ ?_)⟩
      refine ⟨_, run_beginRound hl (by rw [hrec]), ?_⟩
      have hl2 : (W.putObj (w.heap.size + 1) (.loop { rec .ready none with state := .busy })).heap[w.heap.size + 1]? = some (.loop { rec .ready none with state := .busy }) := World.putObj_heap_same hlt
      have hk2 : (W.putObj (w.heap.size + 1) (.loop { rec .ready none with state := .busy })).heap[w.heap.size]? = some (.deferred (some [])) := (World.putObj_heap_other (by omega)).trans hk
      refine wpIn_mono (hbody _ i hi _ (hI.putObj _ hi' (by omega) hl rfl)) ?_
      rintro e a3 W3 ⟨rfl, hk3, hi3⟩
      have hl3 := hk3.same _ _ (by omega) hl2 rfl
      have hr := run_endRound (P := P) none hl3
      rw [hrec] at hr hl3 ⊢
      exact ⟨_, _, hr, rfl, hI.putObj _ hi3 (by omega) hl3 rfl, World.putObj_heap_same (Array.getElem?_eq_some_iff.1 hl3).1, (World.putObj_heap_other (by omega)).trans (hk3.same _ _ (Nat.le_refl _) hk2 rfl)⟩
    · rintro e W2 ⟨⟨v, rfl⟩, hi, hl, hk⟩
      exact ⟨none, _, by have := run_endLoop (P := P) hl (by rw [hrec]; simp); rw [hrec] at this; exact this, hdone _ _ (Nat.le_refl _) (hI.putObj _ hi (by omega) hl rfl) ((World.putObj_heap_other (by omega)).trans hk)⟩
/-- One loop variable, in slot q; the value given lies in slot p. -/
theorem wpIn_range_one {α : Type} {n : Nat} {P : Program} {g : Operand} {p q : Tmp} {assign body : Code} {Q : Exit → Act → World → Prop} {a : Act} {w : World}
    {gf : Nat} {fa lb : Array Value} (hg : a.eval g = .func (.func gf) fa lb) (eg : ∀ args w, (callFunc gf args).run P w = .ok (.enter gf args) w)
    {e : α → Value} {xs : List α} {G : World → Prop} (hit : Gives (n - 1) P gf fa lb (fun x => #[e x]) xs G)
    (I : Nat → World → Prop) (hG : ∀ i W, I i W → G W) (hI : OwnFrom w.heap.size I) (h0 : I 0 w)
    (hassign : ∀ (l : Nat) (x : α) (W : World) (K : Act → World → Prop), K { tmps := (a.tmps.setIfInBounds p (e x)).setIfInBounds q (e x), defers := [] } W →
      assign.wpIn (Fence.wide.inRound l) (n - 1 - 1) P (Exit.then K (fun _ _ _ => False)) { tmps := a.tmps.setIfInBounds p (e x), defers := [] } W)
    (hbody : ∀ (l : Nat) (i : Nat) (h : i < xs.length) (W : World), I i W → body.wpIn (Fence.wide.inRound l) (n - 1 - 1) P (fun x _ W' => x = .normal ∧ KeepsFrom w.heap.size W W' ∧ I (i + 1) W') { tmps := (a.tmps.setIfInBounds p (e xs[i])).setIfInBounds q (e xs[i]), defers := [] } W)
    (hdone : ∀ (D : Nat) (W : World), w.heap.size ≤ D → I xs.length W → W.heap[D]? = some (.deferred (some [])) → Q .normal { a with defers := { target := .collected D, args := #[] } :: a.defers } W) :
    (Code.rangeFunc g #[p] assign body).wpIn Fence.wide n P Q a w :=
  wpIn_range_list hg eg hit (fun _ => rfl) I hG hI h0 (fun x => { tmps := (a.tmps.setIfInBounds p (e x)).setIfInBounds q (e x), defers := [] }) (fun l x W K hK => by simpa using hassign l x W K hK) hbody hdone
end Go.Proofs.Ytehmfnpiidcbpaa
