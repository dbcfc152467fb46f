import Derived.RangeFuncNested
import Derived.RangeFuncBound
import Derived.RangeFuncCalls
import Derived.RangeFuncLeaves
import Derived.RangeFuncBox
import Derived.Shelf.Abstract
import Derived.Shelf.RegionOpen
import Derived.WalkKit
import Derived.OwnWalkIn
import Derived.TacticsInMore
import Derived.LoopNIn
import Derived.LoopIn
import Derived.Lib.Hide
namespace Go.Proofs.YtkfkkglodjehpaaDoor
open Go.RowKit
set_option linter.unusedVariables false

/-! ### Blocks that are known whole -/
/-- Block b holds just these cells, none of them frozen. -/
def Pt (w : World) (b : Nat) (T : TypeId) (cs : List Value) : Prop := w.heap[b]? = some (.cells cs.toArray T (0, 0))
theorem Pt.lt {w : World} {b : Nat} {T : TypeId} {cs : List Value} (h : Pt w b T cs) : b < w.heap.size := (Array.getElem?_eq_some_iff.1 h).1
theorem Pt.cell {w : World} {b : Nat} {T : TypeId} {cs : List Value} (h : Pt w b T cs) : ∀ j, w.cell? ⟨b, j, none⟩ = cs[j]? := fun j => by
  simp [World.cell?, show w.heap[b]? = _ from h]
theorem Pt.free {w : World} {b : Nat} {T : TypeId} {cs : List Value} (h : Pt w b T cs) : ∀ j, w.frozen? ⟨b, j, none⟩ = false := fun j => by
  simp [World.frozen?, show w.heap[b]? = _ from h]
theorem Pt.alloc {w : World} {b : Nat} {T : TypeId} {cs : List Value} (h : Pt w b T cs) (o : Obj) : Pt (w.alloc o) b T cs := (Below.heap_alloc w o b h.lt).trans h
theorem Pt.new (w : World) (T : TypeId) (cs : List Value) : Pt (w.alloc (.cells cs.toArray T)) w.heap.size T cs := World.alloc_heap_new w _
theorem Pt.newA (w : World) (T : TypeId) (cs : Array Value) : Pt (w.alloc (.cells cs T)) w.heap.size T cs.toList := World.alloc_heap_new w _
theorem Pt.newAt (w : World) (T : TypeId) (cs : Array Value) {n : Nat} (hn : n = w.heap.size) : Pt (w.alloc (.cells cs T)) n T cs.toList := by subst hn; exact World.alloc_heap_new w _
theorem Pt.drew {w : World} {b : Nat} {T : TypeId} {cs : List Value} (h : Pt w b T cs) : Pt w.drew b T cs := h
theorem Pt.ne {w : World} {b : Nat} {T : TypeId} {cs : List Value} (h : Pt w b T cs) {p : Addr} (hp : b ≠ p.block) (v : Value) : Pt (w.setCell p v) b T cs := (Below.heap_setCell w p v b hp).trans h
theorem Pt.set {w : World} {b : Nat} {T : TypeId} {cs : List Value} (h : Pt w b T cs) (j : Nat) (v : Value) : Pt (w.setCell ⟨b, j, none⟩ v) b T (cs.set j v) := by
  unfold Pt at h ⊢
  have hlt := (Array.getElem?_eq_some_iff.1 h).1
  have h' : w.heap[b] = .cells cs.toArray T (0, 0) := (Array.getElem?_eq_some_iff.1 h).2
  show (w.heap.modify b _)[b]? = _
  rw [Array.getElem?_eq_getElem (by rw [Array.size_modify]; exact hlt), Array.getElem_modify_self, h']
  simp
theorem Pt.set' {w : World} {b : Nat} {T : TypeId} {cs cs' : List Value} {j : Nat} {v : Value} (h : Pt w b T cs) (e : cs.set j v = cs') : Pt (w.setCell ⟨b, j, none⟩ v) b T cs' := e ▸ h.set j v
theorem Pt.boxed {w : World} {b : Nat} {T : TypeId} {v : Value} (h : Pt w b T [v]) : Boxed w b T v := h
theorem Pt.ownFrom {β : Type} (B b : Nat) (T : TypeId) (f : β → List Value) : OwnFrom B (fun s W => Pt W b T (f s)) := fun s X Y row hs hg hrow => by
  refine (hg.block b (Pt.lt hs) ?_).trans hs
  intro e
  obtain ⟨o', ho', hc⟩ := (hrow _ e.symm).2
  rw [show X.heap[b]? = _ from hs] at ho'; cases ho'; cases hc
theorem Pt.putObj {W : World} {b : Nat} {T : TypeId} {cs : List Value} (h : Pt W b T cs) {l : Nat} {o : Obj} (o' : Obj) (hl : W.heap[l]? = some o) (ho : o.isCells = false) : Pt (W.putObj l o') b T cs :=
  (World.putObj_heap_other (fun e => by subst e; rw [show W.heap[b]? = _ from h] at hl; cases hl; cases ho)).trans h
theorem Pt.at {W : World} {b : Nat} {T : TypeId} {cs : List Value} (h : W.heap[b]? = some (.cells cs.toArray T (0, 0))) : Pt W b T cs := h

/-! ### What a call leaves -/
/-- The blocks that were there lie as they lay, but for those of ex. -/
structure Fr (ex : List Nat) (w w' : World) : Prop where
  os : w'.os = w.os
  tape : w'.tape = w.tape
  output : w'.output = w.output
  size : w.heap.size ≤ w'.heap.size
  block : ∀ k, k < w.heap.size → k ∉ ex → w'.heap[k]? = w.heap[k]?
theorem Fr.refl (ex : List Nat) (w : World) : Fr ex w w := ⟨rfl, rfl, rfl, Nat.le_refl _, fun _ _ _ => rfl⟩
theorem Fr.trans {ex : List Nat} {a b c : World} (h : Fr ex a b) (k : Fr ex b c) : Fr ex a c :=
  ⟨k.os.trans h.os, k.tape.trans h.tape, k.output.trans h.output, Nat.le_trans h.size k.size, fun i hi hx => (k.block i (Nat.lt_of_lt_of_le hi h.size) hx).trans (h.block i hi hx)⟩
/-- What is left out of the second step may also be new. -/
theorem Fr.step {ex ex' : List Nat} {a b c : World} (h : Fr ex a b) (k : Fr ex' b c) (hs : ∀ x ∈ ex', x ∈ ex ∨ a.heap.size ≤ x) : Fr ex a c :=
  ⟨k.os.trans h.os, k.tape.trans h.tape, k.output.trans h.output, Nat.le_trans h.size k.size, fun i hi hx => (k.block i (Nat.lt_of_lt_of_le hi h.size) (fun hm => by rcases hs i hm with h1 | h1; exact hx h1; omega)).trans (h.block i hi hx)⟩
theorem Fr.mono {ex ex' : List Nat} {w w' : World} (h : Fr ex w w') (hs : ∀ x ∈ ex, x ∈ ex') : Fr ex' w w' := ⟨h.os, h.tape, h.output, h.size, fun k hk hx => h.block k hk (fun hm => hx (hs k hm))⟩
theorem Fr.drew {ex : List Nat} {a w : World} (h : Fr ex a w) : Fr ex a w.drew := ⟨h.os, h.tape, h.output, h.size, h.block⟩
theorem Fr.drewN {ex : List Nat} {a w : World} (h : Fr ex a w) (n : Nat) : Fr ex a (w.drewN n) := ⟨h.os, h.tape, h.output, h.size, h.block⟩
theorem Fr.alloc {ex : List Nat} {a w : World} (h : Fr ex a w) (o : Obj) : Fr ex a (w.alloc o) :=
  h.trans ⟨rfl, rfl, rfl, by simp, fun k hk _ => Below.heap_alloc _ _ _ hk⟩
theorem Fr.setCell {ex : List Nat} {a w : World} (h : Fr ex a w) {p : Addr} (hp : p.block ∈ ex ∨ a.heap.size ≤ p.block) (u : Value) : Fr ex a (w.setCell p u) :=
  ⟨h.os, h.tape, h.output, Nat.le_trans h.size (by simp [World.setCell]), fun k hk hx => (Below.heap_setCell _ _ _ _ (fun e => by subst e; rcases hp with h1 | h1; exact hx h1; omega)).trans (h.block k hk hx)⟩
theorem Fr.putObj {ex : List Nat} {a w : World} (h : Fr ex a w) {l : Nat} (hl : a.heap.size ≤ l) (o : Obj) : Fr ex a (w.putObj l o) :=
  ⟨h.os, h.tape, h.output, Nat.le_trans h.size (by simp [World.putObj]), fun k hk hx => (World.putObj_heap_other (by omega)).trans (h.block k hk hx)⟩
theorem Fr.below {ex : List Nat} {w w' : World} (h : Fr ex w w') {n : Nat} (hn : n ≤ w.heap.size) (hx : ∀ x ∈ ex, n ≤ x) : Below n w w' :=
  ⟨h.os, h.tape, h.output, h.size, fun k hk => h.block k (by omega) (fun hm => by have := hx k hm; omega)⟩
theorem Fr.ofBelow {ex : List Nat} {w w' : World} (h : Below w.heap.size w w') : Fr ex w w' := ⟨h.os, h.tape, h.output, h.size, fun k hk _ => h.block k hk⟩
theorem Fr.ofGrown {ex : List Nat} {a w w' : World} {row : Option Nat} (h : Fr ex a w) (hg : w.grownBy w' row) (hr : ∀ k, row = some k → k ∈ ex ∨ a.heap.size ≤ k) : Fr ex a w' :=
  ⟨hg.os.trans h.os, hg.tape.trans h.tape, hg.output.trans h.output, Nat.le_trans h.size hg.size, fun k hk hx => (hg.block k (Nat.lt_of_lt_of_le hk h.size) (fun e => by rcases hr k e.symm with h1 | h1; exact hx h1; omega)).trans (h.block k hk hx)⟩
theorem Fr.pt {ex : List Nat} {w w' : World} (h : Fr ex w w') {b : Nat} {T : TypeId} {cs : List Value} (hp : Pt w b T cs) (hx : b ∉ ex) : Pt w' b T cs := (h.block b hp.lt hx).trans hp
theorem Fr.cell {ex : List Nat} {w w' : World} (h : Fr ex w w') {p : Addr} (hp : p.block < w.heap.size) (hx : p.block ∉ ex) : w'.cell? p = w.cell? p := World.cell?_of_block (w := w) (h.block p.block hp hx)
theorem Fr.frozen {ex : List Nat} {w w' : World} (h : Fr ex w w') {p : Addr} (hp : p.block < w.heap.size) (hx : p.block ∉ ex) : w'.frozen? p = w.frozen? p := World.frozen?_of_block (w := w) (h.block p.block hp hx)
theorem Fr.ownFrom {β : Type} (ex : List Nat) (w₀ : World) (B : Nat) (hB : w₀.heap.size ≤ B) : OwnFrom B (fun (_ : β) W => Fr ex w₀ W) := fun s X Y row hs hg hr =>
  hs.ofGrown hg (fun k e => .inr (Nat.le_trans hB (hr k e).1))

end Go.Proofs.YtkfkkglodjehpaaDoor
