import Derived.Test.YtnggimkkjdipmaaTP6
import Derived.Test.YtnggimkkjdipmaaMaps
import Derived.DeepKeys3
import Derived.Test.YtnggimkkjdipmaaTB26
namespace Go.Proofs.Ytnggimkkjdipmaa
open Go.RowKit
set_option linter.unusedVariables false
set_option linter.unusedSimpArgs false
/-! ### Maps whose keys are pairs (arrays, structs) -/
section
variable {κ : Type} {f : κ → Value} {w : World} {b : Nat} {l : List (κ × Value)} {P : Program} {t kt et : TypeId}
theorem MapK.allW {es : List MapEntry} (he : es.map (fun e => (e.key, e.val)) = l.map (fun x => (f x.1, x.2))) (hall : ∀ x ∈ l, ∃ q, keyOf P kt (f x.1) = some q) : ∀ e ∈ es, ∃ q, keyOf P kt e.key = some q := fun e hm => by
  have h1 : (e.key, e.val) ∈ l.map (fun x => (f x.1, x.2)) := by rw [← he]; exact List.mem_map.mpr ⟨e, hm, rfl⟩
  obtain ⟨x, hx, e1⟩ := List.mem_map.mp h1
  obtain ⟨q, hq⟩ := hall x hx
  exact ⟨q, by rw [← (Prod.mk.inj e1).1]; exact hq⟩
variable [DecidableEq κ]
theorem MapK.findW (K : WideMaps.KeyLaw P kt) {es : List MapEntry} (he : es.map (fun e => (e.key, e.val)) = l.map (fun x => (f x.1, x.2))) (hinj : ∀ a c, f a = f c → a = c) (hnd : (l.map (·.1)).Nodup) (hall : ∀ x ∈ l, ∃ q, keyOf P kt (f x.1) = some q) (k : κ) (hk : ∃ q, keyOf P kt (f k) = some q) (w : World) :
    ((Instr.findKey kt (f k) es).run P w = .ok none w ∧ kget l k = none) ∨ ∃ j v, (Instr.findKey kt (f k) es).run P w = .ok (some (j, v)) w ∧ kget l k = some v := by
  obtain ⟨q, hq⟩ := hk
  rcases K.find w hq es (MapK.allW he hall) with ⟨h1, h2⟩ | ⟨j, e, h1, h2, h3⟩
  · refine .inl ⟨h1, kget_none l k (fun hm => ?_)⟩
    obtain ⟨x, hx, rfl⟩ := List.mem_map.mp hm
    have h4 : (f x.1, x.2) ∈ es.map (fun e => (e.key, e.val)) := by rw [he]; exact List.mem_map.mpr ⟨x, hx, rfl⟩
    obtain ⟨e, hm2, e1⟩ := List.mem_map.mp h4
    exact h2 e hm2 (Prod.mk.inj e1).1
  · refine .inr ⟨j, e.val, h1, ?_⟩
    have h4 := congrArg (·[j]?) he
    simp only [List.getElem?_map, h2, Option.map_some] at h4
    obtain ⟨hj, _⟩ := List.getElem?_eq_some_iff.1 h2
    have hjl : j < l.length := by have := congrArg List.length he; simp at this; omega
    rw [List.getElem?_eq_getElem hjl, Option.map_some] at h4
    have h5 := Option.some.inj h4
    have hkj : l[j].1 = k := hinj _ _ ((Prod.mk.inj h5).1.symm.trans h3)
    have := kget_at l j hjl hnd
    rw [hkj] at this
    rw [this, (Prod.mk.inj h5).2]
theorem MapK.lookW (h : MapK f w b l) (K : WideMaps.KeyLaw P kt) (ht : P.underlying t = some (.map kt et)) (hinj : ∀ a c, f a = f c → a = c) (hnd : (l.map (·.1)).Nodup) (hall : ∀ x ∈ l, ∃ q, keyOf P kt (f x.1) = some q) {z : Value} (hz : (zeroValue et).run P w = .ok z w) (k : κ) (hk : ∃ q, keyOf P kt (f k) = some q) :
    (Instr.lookup t (.map (some b)) (f k) false).run P w = .ok ((kget l k).getD z) w := by
  obtain ⟨es, c, h, he⟩ := h
  obtain ⟨q, hq⟩ := hk
  rcases MapK.findW K he hinj hnd hall k ⟨q, hq⟩ w with ⟨g1, g2⟩ | ⟨j, v, g1, g2⟩
  · simp [Instr.lookup, run_underlying ht, MapKept.run_getObj_map h, K.check w _ hq, g1, hz, g2, Result.andThen]
  · simp [Instr.lookup, run_underlying ht, MapKept.run_getObj_map h, K.check w _ hq, g1, g2, Result.andThen]
theorem MapK.newW (h : MapK f w b l) (K : WideMaps.KeyLaw P kt) (ht : P.underlying t = some (.map kt et)) (hinj : ∀ a c, f a = f c → a = c) (hnd : (l.map (·.1)).Nodup) (hall : ∀ x ∈ l, ∃ q, keyOf P kt (f x.1) = some q) (k : κ) (hk : ∃ q, keyOf P kt (f k) = some q) (hn : kget l k = none) (u : Value) :
    ∃ w', (Instr.mapUpdate t (.map (some b)) (f k) u).run P w = .ok () w' ∧ MapK f w' b (l ++ [(k, u)]) ∧ Fr [b] w w' := by
  have hl := h.lt
  obtain ⟨es, c, h, he⟩ := h
  obtain ⟨q, hq⟩ := hk
  have hfr : ∀ o, Fr [b] w (w.putObj b o) := fun o => ⟨rfl, rfl, rfl, by simp [World.putObj], fun k _ hx => World.putObj_heap_other (fun e => hx (by simp [e]))⟩
  rcases MapK.findW K he hinj hnd hall k ⟨q, hq⟩ w with ⟨g1, _⟩ | ⟨j, v, _, g2⟩
  · refine ⟨w.putObj b (.map (es.push { key := f k, val := u, born := c }) (c + 1)), ?_, ⟨_, _, World.putObj_heap_same hl, by simp [he]⟩, hfr _⟩
    simp [Instr.mapUpdate, run_underlying ht, MapKept.run_getObj_map h, K.check w _ hq, g1, MapKept.run_setObj_map _ h, Result.andThen, World.putObj]
  · rw [hn] at g2; cases g2
end
/-- A pair of numbers as a key. -/
def pairK (p : Int × Int) : Value := .agg #[.int .i64 p.1, .int .i64 p.2]
theorem pairK_inj (a c : Int × Int) (h : pairK a = pairK c) : a = c := by
  unfold pairK at h
  simp at h
  exact Prod.ext h.1 h.2
theorem lawArr : WideMaps.KeyLaw Try.prog 93 := deep_law (m := 5) (by omega) (by kernel_rfl) (by kernel_rfl) (by kernel_rfl)
theorem lawPair : WideMaps.KeyLaw Try.prog 125 := deep_law (m := 5) (by omega) (by kernel_rfl) (by kernel_rfl) (by kernel_rfl)
theorem keyArr (p : Int × Int) (h1 : 0 ≤ p.1 ∧ p.1 ≤ 1000) (h2 : 0 ≤ p.2 ∧ p.2 ≤ 1000) : ∃ q, keyOf Try.prog 93 (pairK p) = some q := by
  have hu : Try.prog.underlying 93 = some (.array 2 3) := by kernel_rfl
  have hk : Try.prog.keyType 93 = true := by kernel_rfl
  have w1 : (Lit.int .i64 p.1).wf = true := by
    simp [Lit.wf, show IntKind.i64.min = -9223372036854775808 by decide +kernel, show IntKind.i64.max = 9223372036854775807 by decide +kernel]; omega
  have w2 : (Lit.int .i64 p.2).wf = true := by
    simp [Lit.wf, show IntKind.i64.min = -9223372036854775808 by decide +kernel, show IntKind.i64.max = 9223372036854775807 by decide +kernel]; omega
  have hs : ∃ n, Try.prog.types.size + 1 = n + 1 + 1 := ⟨Try.prog.types.size - 1, by have : 1 ≤ Try.prog.types.size := of_decide_eq_true (by kernel_rfl); omega⟩
  obtain ⟨n, hn⟩ := hs
  have hc : Try.prog.cellsOf 93 = 2 := by kernel_rfl
  have hc1 : Try.prog.cellsOf 3 = 1 := by kernel_rfl
  have hkl : ∃ ls, Try.prog.keyLits (Try.prog.types.size + 1) 93 (pairK p).cells.toList = some ls := by
    rw [hn]
    unfold Program.keyLits
    rw [hu]
    simp [pairK, Value.cells, hc, hc1, List.range, List.range.loop, Program.keyLits, uInt, w1, w2]
  obtain ⟨ls, hls⟩ := hkl
  have hf : (pairK p).formed Try.prog 93 = true := by
    simp [Value.formed, pairK, hu, hc]
  refine ⟨.string (keyBytes ls), ?_⟩
  unfold keyOf
  rw [hu]
  simp only [hk, hf, Bool.and_self, if_true, hls, Option.map_some]
end Go.Proofs.Ytnggimkkjdipmaa
