import Derived.Test.YtkfkkglodjehpaaRows
import Derived.RangeFuncNested
import Derived.RangeFuncBound
import Derived.RangeFuncCalls
import Derived.RangeFuncLeaves
import Derived.Shelf.Abstract
import Derived.Shelf.RegionOpen
import Derived.WalkKit
import Derived.OwnWalkIn
import Derived.TacticsInMore
import Derived.LoopNIn
import Derived.LoopIn
namespace Go.Proofs.Ytkfkkglodjehpaa.Ag
open Go.RowKit Go.Shelf
attribute [local go_sem] Oper.semAt_some
def needsL : List (Int × Int) := [(128, 48), (256, 1), (1024, 128)]
def encN (x : Int × Int) : Array Value := #[.agg #[.int .i64 x.1, .int .i64 x.2]]
set_option maxRecDepth 100000 in
set_option maxHeartbeats 2000000 in
theorem needs_stops (F : Fence) (n : Nat) (h11 : F.fn 30) (hro : F.round = none) (hn : 1 ≤ n) (w : World) :
    SeqStopsA F n Try.prog 30 #[] encN (fun xs => xs = needsL) (fun pre => pre <+: needsL) 3 w := fun l J Jx W hW hJ hJx hY h0 => by
  have i0 : ∀ w, (Instr.index 87 (.agg #[.int .i64 128, .int .i64 48, .int .i64 256, .int .i64 1, .int .i64 1024, .int .i64 128]) (.int .i64 0)).run Try.prog w = .ok (.agg #[.int .i64 128, .int .i64 48]) w := fun _ => by kernel_rfl
  have i1 : ∀ w, (Instr.index 87 (.agg #[.int .i64 128, .int .i64 48, .int .i64 256, .int .i64 1, .int .i64 1024, .int .i64 128]) (.int .i64 1)).run Try.prog w = .ok (.agg #[.int .i64 256, .int .i64 1]) w := fun _ => by kernel_rfl
  have i2 : ∀ w, (Instr.index 87 (.agg #[.int .i64 128, .int .i64 48, .int .i64 256, .int .i64 1, .int .i64 1024, .int .i64 128]) (.int .i64 2)).run Try.prog w = .ok (.agg #[.int .i64 1024, .int .i64 128]) w := fun _ => by kernel_rfl
  refine callsIn_of_wp Try.func30 rfl h11 ?_ hro
  simp only [Try.ntmps30, List.size_toArray, List.length_cons, List.length_nil, Nat.reduceAdd, Nat.reduceSub, Array.replicate_succ, Array.replicate_zero, List.push_toArray, List.append_toArray, List.nil_append, List.cons_append]
  gi_wp2
  gi_loopw [8] (fun i wr => ∃ k : Nat, k ≤ 3 ∧ i = .int .i64 k ∧ J (needsL.take k) wr) (fun i _ => 3 - (intOf i).toNat)
  case atStart => exact ⟨0, by omega, rfl, h0⟩
  case round =>
    obtain ⟨k, hk, rfl, hJk⟩ := hrel
    have hk' : k = 0 ∨ k = 1 ∨ k = 2 ∨ k = 3 := by omega
    rcases hk' with rfl | rfl | rfl | rfl
    · have hJa : J [] (wr.alloc (.cells #[.int .i64 128, .int .i64 48] 73)) := hJ _ _ _ none hJk (World.grownBy_alloc _ _ _) (by simp)
      obtain ⟨f1, t1, a1, b1, hy1, hR1⟩ := hY [] (128, 48) _ hJa (by simp)
      dsimp only [encN] at hy1
      clear hY h0
      gi_wp2
      refine hR1.mono ?_
      rintro e W' (⟨rfl, hJ', _⟩ | ⟨rfl, hJx'⟩)
      · gi_wp2
        go_roundw
        case rel => exact ⟨1, by omega, rfl, hJ'⟩
        case measure => simp [intOf]
      · gi_wp2
        refine bodyPost_ret (results_none rfl _ _ _) rfl ?_
        exact ⟨⟨_, rfl⟩, .inr ⟨[(128, 48)], by decide, hJx'⟩⟩
    · have hJa : J [(128, 48)] (wr.alloc (.cells #[.int .i64 256, .int .i64 1] 73)) := hJ _ _ _ none hJk (World.grownBy_alloc _ _ _) (by simp)
      obtain ⟨f1, t1, a1, b1, hy1, hR1⟩ := hY [(128, 48)] (256, 1) _ hJa (by simp)
      dsimp only [encN] at hy1
      clear hY h0
      gi_wp2
      refine hR1.mono ?_
      rintro e W' (⟨rfl, hJ', _⟩ | ⟨rfl, hJx'⟩)
      · gi_wp2
        go_roundw
        case rel => exact ⟨2, by omega, rfl, hJ'⟩
        case measure => simp [intOf]
      · gi_wp2
        refine bodyPost_ret (results_none rfl _ _ _) rfl ?_
        exact ⟨⟨_, rfl⟩, .inr ⟨[(128, 48), (256, 1)], by decide, hJx'⟩⟩
    · have hJa : J [(128, 48), (256, 1)] (wr.alloc (.cells #[.int .i64 1024, .int .i64 128] 73)) := hJ _ _ _ none hJk (World.grownBy_alloc _ _ _) (by simp)
      obtain ⟨f1, t1, a1, b1, hy1, hR1⟩ := hY [(128, 48), (256, 1)] (1024, 128) _ hJa (by simp)
      dsimp only [encN] at hy1
      clear hY h0
      gi_wp2
      refine hR1.mono ?_
      rintro e W' (⟨rfl, hJ', _⟩ | ⟨rfl, hJx'⟩)
      · gi_wp2
        go_roundw
        case rel => exact ⟨3, by omega, rfl, hJ'⟩
        case measure => simp [intOf]
      · gi_wp2
        refine bodyPost_ret (results_none rfl _ _ _) rfl ?_
        exact ⟨⟨_, rfl⟩, .inr ⟨[(128, 48), (256, 1), (1024, 128)], by decide, hJx'⟩⟩
    · clear hY h0
      gi_wp2
      go_end0
      exact ⟨⟨_, rfl⟩, .inl ⟨needsL, rfl, hJk⟩⟩
theorem heap_cells_own {β : Type} (b : β → Nat) (o : β → Obj) (ho : ∀ s, (o s).isCells = true) : Own (fun s W => W.heap[b s]? = some (o s)) := fun s X Y row hs hg hrow => by
  have hlt : b s < X.heap.size := (Array.getElem?_eq_some_iff.1 hs).1
  refine (hg.block (b s) hlt ?_).trans hs
  intro e
  obtain ⟨o', ho', hc⟩ := hrow _ e.symm
  rw [hs] at ho'; cases ho'; rw [ho s] at hc; cases hc
theorem heap_cells_cell {W : World} {b : Nat} {c : Array Value} {T : TypeId} (h : W.heap[b]? = some (.cells c T (0, 0))) : ∀ j, W.cell? ⟨b, j, none⟩ = c[j]? := fun j => by simp [World.cell?, h]
theorem all_false_of_prefix {α : Type} {p : α → Bool} {l m : List α} (h : l <+: m) (hp : l.all p = false) : m.all p = false := by
  obtain ⟨t, rfl⟩ := h
  simp [List.all_append, hp]
def nOk (n : Int) (x : Int × Int) : Bool := bits .and .i64 n x.1 == 0 || bits .and .i64 n x.2 == x.2
def propB (n : Int) : Bool := decide (0 ≤ n) && decide (n ≤ 2047) && !(bits .and .i64 n 3 == 0) && needsL.all (nOk n)
theorem prop_neg (n : Int) (w : World) (h : n < 0 ∨ 2047 < n ∨ (bits .and .i64 n 3 == 0) = true) :
    Calls Try.prog 24 #[.int .i64 n] w fun e w' => e = .returned (.bool false) ∧ Below w.heap.size w w' := by
  have hb : Below w.heap.size w ((w.alloc (.cells #[.int .i64 n] 3)).alloc (.cells #[.bool false] 4)) := ((Below.refl _ _).alloc (Nat.le_refl _) _).alloc (by simp) _
  by_cases h1 : n < 0
  · go_enter Try.func24, Try.ntmps24
    go_wp2
    exact bodyPost_ret (v := .bool false) (by simp [results, Try.results24, go_sem]) rfl ⟨rfl, hb⟩
  · by_cases h2 : 2047 < n
    · go_enter Try.func24, Try.ntmps24
      go_wp2
      exact bodyPost_ret (v := .bool false) (by simp [results, Try.results24, go_sem]) rfl ⟨rfl, hb⟩
    · have h3 : (bits .and .i64 n 3 == 0) = true := by rcases h with h | h | h; exact absurd h h1; exact absurd h h2; exact h
      clear h
      go_enter Try.func24, Try.ntmps24
      go_wp2
      exact bodyPost_ret (v := .bool false) (by simp [results, Try.results24, go_sem]) rfl ⟨rfl, hb⟩

set_option maxRecDepth 100000 in
set_option maxHeartbeats 2000000 in
theorem prop_pos (n : Int) (w : World) (h1 : 0 ≤ n) (h2 : n ≤ 2047) (h3 : (bits .and .i64 n 3 == 0) = false) :
    Calls Try.prog 24 #[.int .i64 n] w fun e w' => e = .returned (.bool (needsL.all (nOk n))) ∧ Below w.heap.size w w' := by
  refine (callsIn_wide (n := 5)).1 ?_
  refine callsIn_of_wp_marks Try.func24 rfl trivial ?_ rfl
  simp only [Try.ntmps24, List.size_toArray, List.length_cons, List.length_nil, Nat.reduceAdd, Nat.reduceSub, Array.replicate_succ, Array.replicate_zero, List.push_toArray, List.append_toArray, List.nil_append, List.cons_append]
  gi_wp2
  obtain ⟨w2, hw2⟩ : ∃ w2, ((w.alloc (Obj.cells #[Value.int IntKind.i64 n] 3)).alloc (Obj.cells #[Value.bool false] 4)) = w2 := ⟨_, rfl⟩
  have hz : w2.heap.size = w.heap.size + 2 := by rw [← hw2]; simp
  have hbn : Boxed w2 w.heap.size 3 (.int .i64 n) := by rw [← hw2]; exact (Boxed.new _ _ _).alloc _
  have hbr : Boxed w2 (w.heap.size + 1) 4 (.bool false) := by rw [← hw2]; have := Boxed.new (w.alloc (Obj.cells #[Value.int IntKind.i64 n] 3)) 4 (.bool false); rwa [World.size_alloc] at this
  have hbl : Below w.heap.size w w2 := by rw [← hw2]; exact ((Below.refl _ _).alloc (Nat.le_refl _) _).alloc (by simp) _
  rw [hw2]
  refine wpIn_rangeFunc_ownH rfl (by omega) (gf := 30) (lb := #[]) rfl trivial (enters_of Try.func30 (by kernel_rfl) rfl) (needs_stops Fence.wide (5 - 1) trivial rfl (by omega) w2) walksK_t walksK_b (Below.refl _ _) (fun _ => rfl)
    (fun pre W => (Boxed W w.heap.size 3 (.int .i64 n) ∧ Boxed W (w.heap.size + 1) 4 (.bool false) ∧ pre.all (nOk n) = true) ∧ Below w.heap.size w W)
    (fun c pre W => (c = .ret ∧ Boxed W (w.heap.size + 1) 4 (.bool false) ∧ pre.all (nOk n) = false) ∧ Below w.heap.size w W)
    (OwnFrom.and (Own.from (fun s A B row hs hg hr => ⟨boxed_own (β := Unit) _ _ (fun _ => _) () A B row hs.1 hg hr, boxed_own (β := Unit) _ _ (fun _ => _) () A B row hs.2.1 hg hr, hs.2.2⟩) _) (ownFrom_below (Nat.le_refl _) (by omega)))
    (fun c => OwnFrom.and (Own.from (fun s A B row hs hg hr => ⟨hs.1, boxed_own (β := Unit) _ _ (fun _ => _) () A B row hs.2.1 hg hr, hs.2.2⟩) _) (ownFrom_below (Nat.le_refl _) (by omega)))
    ⟨⟨hbn, hbr, rfl⟩, hbl⟩
    (fun x a' W => ∃ Bx, W.heap[Bx]? = some (.cells #[.int .i64 x.1, .int .i64 x.2] 73 (0, 0)) ∧ a' = {
      tmps :=
        #[Value.int IntKind.i64 n, Value.pointer (some { block := w.heap.size, off := 0 }),
          Value.pointer (some { block := w.heap.size + 1, off := 0 }), Value.pointer (some { block := Bx, off := 0 }), Value.int IntKind.i64 n,
          Value.bool (decide (n < 0)), Value.bool (decide (n < 0)), Value.int IntKind.i64 n,
          Value.bool (decide (2047 < n)), Value.bool (decide (n < 0) || decide (2047 < n)),
          Value.bool (decide (n < 0) || decide (2047 < n)), Value.int IntKind.i64 n,
          Value.int IntKind.i64 (bits BinOp.and IntKind.i64 n 3), Value.bool false,
          Value.bool (decide (n < 0) || decide (2047 < n)), .agg #[.int .i64 x.1, .int .i64 x.2], undef, undef, undef, undef, undef, undef, undef,
          undef, undef, undef, undef, undef, undef, undef],
      defers := [] })
    (fun x a' => Own.from (fun s A B row ⟨Bx, h2, h3⟩ hg hr => ⟨Bx, heap_cells_own (β := Unit) (fun _ => Bx) (fun _ => .cells #[.int .i64 x.1, .int .i64 x.2] 73 (0, 0)) (fun _ => rfl) () A B row h2 hg hr, h3⟩) _)
    ?assign ?body ?done ?stop
  case assign =>
    rintro l pre x W K ⟨⟨b1, b2, hp⟩, hbl⟩ hK
    dsimp only [encN]
    gi_wp2
    exact hK _ _ ((KeepsOthers.alloc _ _).from _) (KeepsWalks.alloc _ _) ⟨⟨b1.alloc _, b2.alloc _, hp⟩, hbl.alloc hbl.size _⟩ ⟨W.heap.size, World.alloc_heap_new W _, rfl⟩
  case body =>
    rintro l pre x a' W hl ⟨r, hr⟩ ⟨⟨b1, b2, hp⟩, hbl⟩ ⟨Bx, bX, rfl⟩ hlt
    have c1 := b1.cell
    have c2 := b2.cell
    have f2 := b2.frozen
    have cX := heap_cells_cell bX
    gi_wp2
    · have hx : nOk n x = true := by unfold nOk; simp_all
      exact ⟨KeepsFrom.refl _ _, KeepsWalks.refl _, ⟨b1, b2, by simp [hp, hx]⟩, hbl⟩
    · have hx : nOk n x = false := by unfold nOk; simp_all
      exact ⟨(KeepsOthers.setCell _ _ _).from _, ⟨rfl, b2.set _, by simp [hx]⟩, hbl.setCell (p := ⟨w.heap.size + 1, 0, none⟩) (by simp) _⟩
    · have hx : nOk n x = true := by unfold nOk; simp_all
      exact ⟨KeepsFrom.refl _ _, KeepsWalks.refl _, ⟨b1, b2, by simp [hp, hx]⟩, hbl⟩
  case done =>
    rintro D ys W hD rfl ⟨⟨b1, b2, hp⟩, hbl⟩ hK
    have c2 := b2.cell
    have f2 := b2.frozen
    gi_wp2
    have hK' : (W.setCell ⟨w.heap.size + 1, 0, none⟩ (.bool true)).heap[D]? = some (.deferred (some [])) := (KeepsOthers.setCell _ _ _).same D _ hK rfl
    refine ⟨by simp, .inl ⟨_, _, rfl, run_takeDeferred hK', ?_⟩⟩
    have c3 := cell_kept (b2.set (.bool true)).cell (grownBy_putObj' _ D (.deferred none)) (fun r e => by cases e; exact ⟨_, hK', rfl⟩)
    exact ⟨.bool true, by simp [results, Try.results24, go_sem, c3], by rw [hp], (hbl.setCell (p := ⟨w.heap.size + 1, 0, none⟩) (by simp) _).trans (belowK_b (w := w) (Nat.le_refl _) _ D _ _ (by omega) hK' rfl rfl)⟩
  case stop =>
    rintro D c pre W hD hpre ⟨⟨rfl, b2, hp⟩, hbl⟩ hK
    have c2 := b2.cell
    gi_wp2
    refine ⟨by simp, .inl ⟨_, _, rfl, run_takeDeferred hK, ?_⟩⟩
    have c3 := cell_kept b2.cell (grownBy_putObj' _ D (.deferred none)) (fun r e => by cases e; exact ⟨_, hK, rfl⟩)
    exact ⟨.bool false, by simp [results, Try.results24, go_sem, c3], by rw [all_false_of_prefix hpre hp], hbl.trans (belowK_b (w := w) (Nat.le_refl _) _ D _ _ (by omega) hK rfl rfl)⟩

end Go.Proofs.Ytkfkkglodjehpaa.Ag
