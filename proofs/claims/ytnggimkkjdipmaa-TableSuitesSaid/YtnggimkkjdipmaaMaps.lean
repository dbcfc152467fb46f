import Derived.Test.YtnggimkkjdipmaaLib
import Derived.WideMake
import Derived.MapKept
namespace Go.Proofs.Ytnggimkkjdipmaa
open Go.RowKit
set_option linter.unusedVariables false
set_option linter.unusedSimpArgs false
/-! ### A map, whole: its entries in the order in which they came -/
section
variable {κ : Type}
def kget [DecidableEq κ] (l : List (κ × Value)) (k : κ) : Option Value := match l with | [] => none | x :: r => if x.1 = k then some x.2 else kget r k
def kset [DecidableEq κ] (l : List (κ × Value)) (k : κ) (v : Value) : List (κ × Value) := match l with | [] => [(k, v)] | x :: r => if x.1 = k then (k, v) :: r else x :: kset r k v
/-- The entries' stamps: each its own, all ahead of the clock. -/
structure Stamps (es : Array MapEntry) (c : Nat) : Prop where
  nd : (es.toList.map (·.born)).Nodup
  lt : ∀ e ∈ es.toList, e.born < c
theorem Stamps.push {es : Array MapEntry} {c : Nat} (h : Stamps es c) (e : MapEntry) (he : e.born = c) : Stamps (es.push e) (c + 1) := by
  refine ⟨?_, fun x hx => ?_⟩
  · rw [Array.toList_push, List.map_append, List.nodup_append]
    refine ⟨h.nd, by simp, fun a ha b hb => ?_⟩
    simp at hb; subst hb
    obtain ⟨y, hy, rfl⟩ := List.mem_map.mp ha
    have := h.lt y hy
    omega
  · rw [Array.toList_push] at hx
    rcases List.mem_append.mp hx with hx | hx
    · have := h.lt x hx; omega
    · simp at hx; subst hx; omega
theorem Stamps.of_born {es es' : Array MapEntry} {c : Nat} (h : Stamps es c) (he : es'.toList.map (·.born) = es.toList.map (·.born)) : Stamps es' c := by
  refine ⟨by rw [he]; exact h.nd, fun x hx => ?_⟩
  have : x.born ∈ es'.toList.map (·.born) := List.mem_map.mpr ⟨x, hx, rfl⟩
  rw [he] at this
  obtain ⟨y, hy, e⟩ := List.mem_map.mp this
  rw [← e]; exact h.lt y hy
/-- Block b is a map with the entries l; f: how a key stands in memory. -/
def MapK (f : κ → Value) (w : World) (b : Nat) (l : List (κ × Value)) : Prop :=
  ∃ es clock, w.heap[b]? = some (.map es clock) ∧ Stamps es clock ∧ es.toList.map (fun e => (e.key, e.val)) = l.map (fun x => (f x.1, x.2))
variable {f : κ → Value} {w w' : World} {b : Nat} {l : List (κ × Value)}
theorem MapK.lt (h : MapK f w b l) : b < w.heap.size := by
  obtain ⟨es, c, h, _, _⟩ := h
  exact (Array.getElem?_eq_some_iff.1 h).1
theorem MapK.fr (h : MapK f w b l) {ex : List Nat} (hf : Fr ex w w') (hx : b ∉ ex) : MapK f w' b l := by
  have hl := h.lt
  obtain ⟨es, c, h, hst, he⟩ := h
  exact ⟨es, c, (hf.block b hl hx).trans h, hst, he⟩
theorem MapK.made (f : κ → Value) (w : World) : MapK f (w.alloc (.map #[] 0)) w.heap.size [] := ⟨#[], 0, World.alloc_heap_new w _, ⟨by simp, by simp⟩, rfl⟩
theorem MapK.ne {p : Addr} {v : Value} (h : MapK f w b l) (hp : b ≠ p.block) : MapK f (w.setCell p v) b l := by
  obtain ⟨es, c, h, hst, he⟩ := h
  exact ⟨es, c, (Below.heap_setCell w p v b hp).trans h, hst, he⟩
theorem MapK.alloc {o : Obj} (h : MapK f w b l) : MapK f (w.alloc o) b l := by
  have hl := h.lt
  obtain ⟨es, c, h, hst, he⟩ := h
  exact ⟨es, c, (Below.heap_alloc w o b hl).trans h, hst, he⟩
theorem MapK.drew (h : MapK f w b l) : MapK f w.drew b l := h
variable [DecidableEq κ]
/-- What findNow tells of a map. -/
theorem findNow_k {d : TypeDesc} (hK : ∀ k, MapKept.IsKey d (f k)) (hinj : ∀ a c, f a = f c → a = c) (k : κ) : ∀ (es : List MapEntry) (l : List (κ × Value)) (i : Nat), es.map (fun e => (e.key, e.val)) = l.map (fun x => (f x.1, x.2)) →
    (Instr.findNow d (f k) es i = some none ∧ kget l k = none ∧ kset l k = fun v => l ++ [(k, v)]) ∨
    ∃ j v, Instr.findNow d (f k) es i = some (some (i + j, v)) ∧ kget l k = some v ∧ (es[j]?).map (·.key) = some (f k) ∧ (∀ u, l.set j (k, u) = kset l k u) ∧ j < es.length
  | [], [], i, _ => .inl ⟨rfl, rfl, rfl⟩
  | [], _ :: _, i, h => by cases h
  | _ :: _, [], i, h => by cases h
  | e :: es, (k', v') :: l, i, h => by
    simp only [List.map_cons, List.cons.injEq, Prod.mk.injEq] at h
    obtain ⟨⟨h1, h2⟩, h3⟩ := h
    obtain ⟨r, hr, hiff⟩ := MapKept.sameNow_of_keys (hK k) (hK k')
    by_cases hk : k' = k
    · subst hk
      have : r = true := hiff.2 rfl
      subst this
      refine .inr ⟨0, v', ?_, by simp [kget], by simp [h1], fun u => by simp [kset], by simp⟩
      simp [Instr.findNow, h1, hr, h2]
    · have hrf : r = false := by
        cases r
        · rfl
        · exact absurd (hinj _ _ (hiff.1 rfl)).symm hk
      subst hrf
      rcases findNow_k hK hinj k es l (i + 1) h3 with ⟨g1, g2, g3⟩ | ⟨j, v, g1, g2, g3, g4, g5⟩
      · exact .inl ⟨by simp [Instr.findNow, h1, hr, g1], by simp [kget, hk, g2], by funext v; simp [kset, hk, g3]⟩
      · refine .inr ⟨j + 1, v, ?_, by simp [kget, hk, g2], by simpa using g3, fun u => by simp [kset, hk, g4], by simp; omega⟩
        simp [Instr.findNow, h1, hr, g1]
        omega
variable {P : Program} {t kt et : TypeId} {d : TypeDesc}
theorem MapK.look (h : MapK f w b l) (ht : P.underlying t = some (.map kt et)) (hd : P.underlying kt = some d) (hK : ∀ k, MapKept.IsKey d (f k)) (hinj : ∀ a c, f a = f c → a = c) {z : Value} (hz : (zeroValue et).run P w = .ok z w) (k : κ) :
    (Instr.lookup t (.map (some b)) (f k) false).run P w = .ok ((kget l k).getD z) w := by
  obtain ⟨es, c, h, hst, he⟩ := h
  rcases findNow_k hK hinj k es.toList l 0 he with ⟨g1, g2, _⟩ | ⟨j, v, g1, g2, _⟩
  · simp [Instr.lookup, run_underlying ht, MapKept.run_getObj_map h, MapKept.run_checkKey hd (hK k), MapKept.run_findKey hd g1, hz, g2, Result.andThen]
  · simp [Instr.lookup, run_underlying ht, MapKept.run_getObj_map h, MapKept.run_checkKey hd (hK k), MapKept.run_findKey hd g1, g2, Result.andThen]
theorem MapK.lookOk (h : MapK f w b l) (ht : P.underlying t = some (.map kt et)) (hd : P.underlying kt = some d) (hK : ∀ k, MapKept.IsKey d (f k)) (hinj : ∀ a c, f a = f c → a = c) {z : Value} (hz : (zeroValue et).run P w = .ok z w) (k : κ) :
    (Instr.lookup t (.map (some b)) (f k) true).run P w = .ok (.tuple #[(kget l k).getD z, .bool (kget l k).isSome]) w := by
  obtain ⟨es, c, h, hst, he⟩ := h
  rcases findNow_k hK hinj k es.toList l 0 he with ⟨g1, g2, _⟩ | ⟨j, v, g1, g2, _⟩
  · simp [Instr.lookup, run_underlying ht, MapKept.run_getObj_map h, MapKept.run_checkKey hd (hK k), MapKept.run_findKey hd g1, hz, g2, Result.andThen]
  · simp [Instr.lookup, run_underlying ht, MapKept.run_getObj_map h, MapKept.run_checkKey hd (hK k), MapKept.run_findKey hd g1, g2, Result.andThen]
theorem MapK.update (h : MapK f w b l) (ht : P.underlying t = some (.map kt et)) (hd : P.underlying kt = some d) (hK : ∀ k, MapKept.IsKey d (f k)) (hinj : ∀ a c, f a = f c → a = c) (k : κ) (u : Value) :
    ∃ w', (Instr.mapUpdate t (.map (some b)) (f k) u).run P w = .ok () w' ∧ MapK f w' b (kset l k u) ∧ Fr [b] w w' := by
  have hl := h.lt
  obtain ⟨es, c, h, hst, he⟩ := h
  have hfr : ∀ o, Fr [b] w (w.putObj b o) := fun o => ⟨rfl, rfl, rfl, by simp [World.putObj], fun k _ hx => World.putObj_heap_other (fun e => hx (by simp [e]))⟩
  rcases findNow_k hK hinj k es.toList l 0 he with ⟨g1, g2, g3⟩ | ⟨j, v, g1, g2, g3, g4, g5⟩
  · refine ⟨w.putObj b (.map (es.push { key := f k, val := u, born := c }) (c + 1)), ?_, ⟨_, _, World.putObj_heap_same hl, hst.push _ rfl, by simp [he, g3]⟩, hfr _⟩
    simp [Instr.mapUpdate, run_underlying ht, MapKept.run_getObj_map h, MapKept.run_checkKey hd (hK k), MapKept.run_findKey hd g1, MapKept.run_setObj_map _ h, Result.andThen, World.putObj]
  · have gk : (((es[0 + j]?).map (·.key)).getD (f k)) = f k := by
      have : (es[j]?).map (·.key) = some (f k) := by simpa using g3
      rw [Nat.zero_add, this]; rfl
    refine ⟨w.putObj b (.map (es.modify j fun e => { e with key := f k, val := u }) c), ?_, ⟨_, _, World.putObj_heap_same hl, hst.of_born ?_, ?_⟩, hfr _⟩
    · simp [Instr.mapUpdate, run_underlying ht, MapKept.run_getObj_map h, MapKept.run_checkKey hd (hK k), MapKept.run_findKey hd g1, MapKept.run_keyThatStays (hK k), MapKept.run_setObj_map _ h, Result.andThen, World.putObj]
      have gk' : (((es[j]?).map (·.key)).getD (f k)) = f k := by simpa using gk
      rw [gk', MapKept.run_keyThatStays (hK k)]
      exact MapKept.run_setObj_map _ h
    · apply List.ext_getElem?
      intro i
      simp only [List.getElem?_map, Array.getElem?_toList, Array.getElem?_modify]
      by_cases q : j = i
      · subst q
        cases es[j]? <;> simp
      · simp [q]
    · rw [← g4]
      apply List.ext_getElem?
      intro i
      have hi := congrArg (·[i]?) he
      simp only [List.getElem?_map, Array.getElem?_toList, Array.getElem?_modify, List.getElem?_set] at hi ⊢
      by_cases q : j = i
      · subst q
        have hj : j < es.size := by simpa using g5
        have hjl : j < l.length := by
          have := congrArg List.length he
          simp at this; omega
        simp [hj, hjl]
      · simp [q, hi]
end
theorem MapK.len {κ : Type} {f : κ → Value} {w : World} {b : Nat} {l : List (κ × Value)} {P : Program} {t : TypeId} (h : MapK f w b l) (ht : P.underlying t = some (.map (P.mapKeyOf t) (P.mapElemOf t))) (ty : TypeId) : (Builtin.len_ #[t] ty #[.map (some b)]).run P w = .ok (.int .i64 l.length) w := by
  obtain ⟨es, c, h, hst, he⟩ := h
  rw [run_len_map w t ty b es c ht h]
  have := congrArg List.length he
  simp at this
  rw [this]
  rfl
/-! #### keys that are numbers, keys that are texts -/
theorem isKey_int (k : Int) : MapKept.IsKey (.int .i64) (.int .i64 k) := by simp [MapKept.IsKey]
theorem int_inj (a b : Int) (h : Value.int .i64 a = .int .i64 b) : a = b := by cases h; rfl
theorem isKey_str (k : ByteArray) : MapKept.IsKey .string (.string k) := by simp [MapKept.IsKey]
theorem str_inj (a b : ByteArray) (h : Value.string a = .string b) : a = b := by cases h; rfl
end Go.Proofs.Ytnggimkkjdipmaa
