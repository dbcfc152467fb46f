import Derived.Test.YtehmfnpiidcbpaaGS1
import Derived.Test.YtehmfnpiidcbpaaGSort
namespace Go.Proofs.Ytehmfnpiidcbpaa
open Go.RowKit
set_option linter.unusedVariables false
set_option linter.unusedSimpArgs false
set_option maxHeartbeats 16000000
set_option maxRecDepth 100000
open Go.Shelf Go.Lib Go.Sort
/-! ### Ranges sorted by where they begin -/
theorem sortWorld_fr {α : Type} [Inhabited α] (enc : α → Value) (w : World) (blk off n : Nat) (d : Array α) (os : Array Obj) : Fr [blk] w (sortWorld enc w blk off n d os) := by
  have hp : (Sort.putRow enc (Sort.ahead w n) blk off d).heap.size = w.heap.size := by simp [Sort.putRow, Sort.mapBlock, Sort.ahead]
  refine ⟨rfl, rfl, rfl, by simp only [sortWorld, Sort.grow, Array.size_append, hp]; omega, fun k hk hx => ?_⟩
  unfold sortWorld
  rw [Sort.heap_grow_old _ _ (by rw [hp]; exact hk)]
  simp at hx
  simp [Sort.putRow, Sort.mapBlock, Sort.ahead, Array.getElem?_modify, Ne.symm hx]
theorem sortWorld_cell {α : Type} [Inhabited α] (enc : α → Value) (w : World) (blk off n : Nat) (d0 d : Array α) (os : Array Obj) (hb : blk < w.heap.size) (hH : Go.Sort.Holds enc w blk off d0) (hs : d.size = d0.size) :
    (∀ j, j < d.size → (sortWorld enc w blk off n d os).cell? ⟨blk, off + j, none⟩ = some (enc d[j]!)) ∧ (∀ j, d.size ≤ j → (sortWorld enc w blk off n d os).cell? ⟨blk, off + j, none⟩ = w.cell? ⟨blk, off + j, none⟩) ∧ (∀ j, (sortWorld enc w blk off n d os).frozen? ⟨blk, off + j, none⟩ = w.frozen? ⟨blk, off + j, none⟩) := by
  have hp : (Sort.putRow enc (Sort.ahead w n) blk off d).heap.size = w.heap.size := by simp [Sort.putRow, Sort.mapBlock, Sort.ahead]
  refine ⟨fun j hj => ?_, fun j hj => ?_, fun j => ?_⟩
  · unfold sortWorld
    rw [Sort.cell?_grow _ _ _ (by rw [hp]; exact hb)]
    exact Sort.cell?_putRow enc (Sort.ahead w n) blk off d0 d (Sort.holds_ahead _ _ _ _ _ _ hH) hs j hj
  · unfold sortWorld
    rw [Sort.cell?_grow _ _ _ (by rw [hp]; exact hb), Sort.cell?_putRow_other _ _ _ _ _ _ (.inr (.inr (by show off + d.size ≤ off + j; omega)))]
    rfl
  · unfold sortWorld
    rw [Sort.frozen?_grow _ _ _ (by rw [hp]; exact hb), Sort.frozen?_putRow]
    rfl

def encP (x : Int × Int) : List Value := [.int .i64 x.1, .int .i64 x.2]
theorem ltLo (x y : Int × Int) : ltOf (fun x y : Int × Int => Lib.compareInt x.1 y.1) x y = decide (x.1 < y.1) := by
  unfold ltOf Lib.compareInt
  by_cases h1 : x.1 < y.1
  · simp [h1]
  · by_cases h2 : y.1 < x.1 <;> simp [h1, h2]
theorem swoLo : SWO (ltOf fun x y : Int × Int => Lib.compareInt x.1 y.1) where
  irrefl x := by rw [ltLo]; simp
  trans x y z h1 h2 := by rw [ltLo] at *; simp at *; omega
  ntrans x y z h1 h2 := by rw [ltLo] at *; simp at *; omega
theorem cf_tidy1 : ∀ args W, (callFunc 48 args).run Try.prog W = .ok (.enter 48 args) W := by
  intro args W
  have hb : Try.f48.body.isNone = false := by kernel_rfl
  simp [callFunc, go_sem, Try.func48]
  rw [if_neg (by decide +kernel), if_neg (fun h => by rw [h] at hb; cases hb)]
theorem tidy1_any (x y : Int × Int) (W : World) : Calls Try.prog 48 #[.agg #[.int .i64 x.1, .int .i64 x.2], .agg #[.int .i64 y.1, .int .i64 y.2]] W fun e w' => e = .returned (.int .i64 (Lib.compareInt x.1 y.1)) ∧ ∃ q os', w' = grow (W.drewN q) os' := by
  have hcon := fun W' => AnyG.cmp_Compare_int Try.cmpInt x.1 y.1 W'
  change ∀ W', Calls Try.prog 49 _ _ _ at hcon
  generalize Lib.compareInt x.1 y.1 = r at hcon ⊢
  go_enter Try.func48, Try.ntmps48
  go_wp2_with (go_at_call 49; refine (hcon _).mono ?_; rintro e w' ⟨rfl, rfl⟩)
  go_ret
  exact ⟨rfl, 0, _, by rw [alloc_eq_grow, alloc_eq_grow, grow_grow]; rfl⟩
theorem pcells_flat (l : List (Int × Int)) (t : Nat) (h : t < l.length * 2) : (pcells l)[t]? = some ((encP l.toArray[t / 2]!)[t % 2]!) := by
  have h2 : t / 2 < l.length := by omega
  obtain ⟨g1, g2⟩ := pcells_get l (t / 2) h2
  have e : l.toArray[t / 2]! = l[t / 2] := by simp [h2]
  rw [e]
  rcases Nat.mod_two_eq_zero_or_one t with hm | hm
  · rw [show t / 2 * 2 = t by omega] at g1; rw [hm, g1]; rfl
  · rw [show t / 2 * 2 + 1 = t by omega] at g2; rw [hm, g2]; rfl
def SortPR (w : World) (v : Value) (l : List (Int × Int)) (bo : Option Nat) (e : Ending) (w' : World) : Prop :=
  ∃ l', e = .returned (.tuple #[]) ∧ l'.Perm l ∧ l'.Pairwise (fun a b => a.1 ≤ b.1) ∧ Row 2 w' v l'.length (pcells l') bo ∧ Fr bo.toList w w'
theorem sortP_any (w : World) (v : Value) (l : List (Int × Int)) (bo : Option Nat) (h : Row 2 w v l.length (pcells l) bo) (hn : l.length ≤ 1000000) :
    Calls Try.prog 47 #[v, .func (.func 48) #[] #[]] w (SortPR w v l bo) := by
  rcases h with ⟨rfl, h2, _, o, rfl⟩ | ⟨blk, off, cap, rfl, rfl, h3, h4, h5, h6, h7⟩
  · have hl : l = [] := List.eq_nil_of_length_eq_zero h2
    subst hl
    refine (AnyF.slices_SortFunc_none (P := Try.prog) (ρ := Try.sortP_ren) Try.sortP o 0 _ w).mono fun e w' ⟨h1, h2⟩ => ?_
    subst h2
    exact ⟨[], h1, List.Perm.refl _, List.Pairwise.nil, Row.nil _ _ _, Fr.refl _ _⟩
  · have hH : HoldsK encP 2 w blk off l.toArray := fun j hj => by
      have hj' : j < l.length * 2 := by rw [size_flatK] at hj; simpa using hj
      refine ⟨?_, (h6 j (Nat.lt_of_lt_of_le hj' (Nat.mul_le_mul_right 2 h3))).2⟩
      rw [h7 j hj', pcells_flat l j hj', get_flatK encP 2 l.toArray j (by simpa using hj')]
      rfl
    have hcmp : CmpLays Try.prog 48 #[] encP 2 (fun x y : Int × Int => Lib.compareInt x.1 y.1) blk off l.toArray.size w := fun _ _ _ _ x y => tidy1_any x y _
    have C := AnyQ.slices_SortFunc Try.sortP 2 Try.isAgg51 Try.sizeOf51 encP (fun _ => rfl) (fun x v hv => by simp [encP] at hv; rcases hv with rfl | rfl <;> rfl) (fun x y : Int × Int => Lib.compareInt x.1 y.1) swoLo 48 #[] blk off cap l.toArray w cf_tidy1 hcmp hH h4 (by simp; omega)
    rw [List.size_toArray] at C
    refine C.mono fun e w' ⟨h1, d', n, os, hp, hs, hw⟩ => ?_
    obtain ⟨hps, _, hperm⟩ := hp
    have hsz : d'.size = l.length := by rw [hps]; simp
    have hw' : w' = sortWorld id w blk off n (flatK encP 2 d') os := hw
    obtain ⟨c1, c2, c3⟩ := sortWorld_cell id w blk off n (flatK encP 2 l.toArray) (flatK encP 2 d') os h4 hH (by rw [size_flatK, size_flatK, hps])
    have hfr := sortWorld_fr id w blk off n (flatK encP 2 d') os
    rw [← hw'] at c1 c2 c3 hfr
    rw [size_flatK, hsz] at c1 c2
    have hperm2 : d'.toList.Perm l := by
      have e1 : (d'.extract 0 l.length).toList = d'.toList := by rw [Array.toList_extract]; simp [List.extract]; exact List.take_of_length_le (by rw [Array.length_toList]; omega)
      have e2 : (l.toArray.extract 0 l.length).toList = l := by rw [Array.toList_extract]; simp [List.extract]
      rw [← e1]
      conv => rhs; rw [← e2]
      exact hperm
    have hln : d'.toList.length = l.length := by rw [Array.length_toList]; exact hsz
    refine ⟨d'.toList, h1, hperm2, ?_, ?_, by simpa using hfr⟩
    · rw [List.pairwise_iff_getElem]
      intro i j hi hj hij
      simp only [Array.length_toList] at hi hj
      have := hs i j (Nat.zero_le _) hij (by omega)
      rw [ltLo, getElem!_pos d' i hi, getElem!_pos d' j hj] at this
      simp only [Array.getElem_toList]
      simpa using this
    · rw [hln]
      refine .inr ⟨blk, off, cap, rfl, rfl, h3, Nat.lt_of_lt_of_le h4 hfr.size, by rw [pcells_len, hln], fun j hj => ⟨?_, by rw [c3]; exact (h6 j hj).2⟩, fun j hj => ?_⟩
      · by_cases e : j < l.length * 2
        · rw [c1 j e]; rfl
        · rw [c2 j (by omega)]; exact (h6 j hj).1
      · rw [c1 j hj, pcells_flat d'.toList j (by rw [hln]; exact hj), get_flatK encP 2 d' j (by rw [hsz]; exact hj)]
        simp
end Go.Proofs.Ytehmfnpiidcbpaa
