import Derived.Test.YtehmfnpiidcbpaaLib
import Derived.Deep.AppendSrc
import Derived.Deep.MidRow
import Derived.Deep.Upon
import Derived.Laws.AppendOwn
namespace Go.Proofs.Ytehmfnpiidcbpaa
open Go.RowKit
set_option linter.unusedVariables false
set_option linter.unusedSimpArgs false
/-! ### A slice of the call's own, at whatever place in its block -/
/-- v is a slice of n elements of k cells, whose cells are cs; bo: the block that it lies in (none: it has no room at all). -/
def Row (k : Nat) (w : World) (v : Value) (n : Nat) (cs : List Value) (bo : Option Nat) : Prop :=
  (bo = none ∧ n = 0 ∧ cs = [] ∧ ∃ o, v = .slice o 0 0) ∨
  ∃ b off cap, bo = some b ∧ v = .slice (some ⟨b, off, none⟩) n cap ∧ n ≤ cap ∧ b < w.heap.size ∧ cs.length = n * k ∧
    (∀ j, j < cap * k → (w.cell? ⟨b, off + j, none⟩).isSome = true ∧ w.frozen? ⟨b, off + j, none⟩ = false) ∧ ∀ j, j < n * k → w.cell? ⟨b, off + j, none⟩ = cs[j]?
theorem Row.nil (k : Nat) (w : World) (o : Option Addr) : Row k w (.slice o 0 0) 0 [] none := .inl ⟨rfl, rfl, rfl, o, rfl⟩
theorem Row.fr {k : Nat} {w w' : World} {v : Value} {n : Nat} {cs : List Value} {bo : Option Nat} (h : Row k w v n cs bo) {ex : List Nat} (hf : Fr ex w w') (hx : ∀ b, bo = some b → b ∉ ex) : Row k w' v n cs bo := by
  rcases h with h | ⟨b, off, cap, h1, h2, h3, h4, h5, h6, h7⟩
  · exact .inl h
  · have hb := hx b h1
    refine .inr ⟨b, off, cap, h1, h2, h3, Nat.lt_of_lt_of_le h4 hf.size, h5, fun j hj => ?_, fun j hj => ?_⟩
    · rw [hf.cell (p := ⟨b, off + j, none⟩) h4 hb, hf.frozen (p := ⟨b, off + j, none⟩) h4 hb]; exact h6 j hj
    · rw [hf.cell (p := ⟨b, off + j, none⟩) h4 hb]; exact h7 j hj
theorem Row.fr' {k : Nat} {w w' : World} {v : Value} {n n' : Nat} {cs : List Value} {bo : Option Nat} (h : Row k w v n cs bo) (hn : n' = n) {ex : List Nat} (hf : Fr ex w w') (hx : ∀ b, bo = some b → b ∉ ex) : Row k w' v n' cs bo := hn ▸ h.fr hf hx
theorem Row.lt {k : Nat} {w : World} {v : Value} {n : Nat} {cs : List Value} {b : Nat} (h : Row k w v n cs (some b)) : b < w.heap.size := by
  rcases h with ⟨h, _⟩ | ⟨b', _, _, h1, _, _, h4, _⟩
  · cases h
  · cases h1; exact h4
theorem Row.len {k : Nat} {w : World} {v : Value} {n : Nat} {cs : List Value} {bo : Option Nat} (h : Row k w v n cs bo) : ∃ o cap, v = .slice o n cap := by
  rcases h with ⟨_, rfl, _, o, rfl⟩ | ⟨b, off, cap, _, rfl, _⟩
  · exact ⟨_, _, rfl⟩
  · exact ⟨_, _, rfl⟩
theorem Fr.setCells {ex : List Nat} {a : World} {b : Nat} (hb : b ∈ ex) : ∀ (vs : List Value) (o : Nat) (w : World), Fr ex a w → Fr ex a (w.setCells b o vs)
  | [], _, _, h => h
  | v :: r, o, w, h => Fr.setCells hb r (o + 1) _ (h.setCell (.inl hb) v)
section
variable {P : Program} {w : World} {k : Nat} {v : Value} {n : Nat} {cs : List Value} {bo : Option Nat}
/-- append(v, news..): in place or in a new row; of whatever length that fits. -/
theorem Row.appendW (h : Row k w v n cs bo) {t tx ty e : TypeId} {i : TypeInfo} {z : Value} (ht : P.underlying t = some (.slice e)) (hi : P.info? e = some i) (hz : i.zero = some z) (hk : i.size = k) (hk0 : 0 < k)
    (hzs : z.cells.size = k) {x : Value} {m : Nat} {news : List Value} (hs : Src P k tx x m news w) (hm0 : 0 < m) (hfit : (n + m) * i.bytes ≤ 140737488355328) (h63 : n + m ≤ 9223372036854775807) :
    ∃ v' w' bo', (Builtin.append_ #[t, tx] ty #[v, x]).run P w = .ok v' w' ∧ Row k w' v' (n + m) (cs ++ news) bo' ∧ (bo' = bo ∨ bo' = some w.heap.size) ∧ Fr bo.toList w w' := by
  have hnl := hs.newsLen
  subst hk
  have grow : ∀ (o : Option Addr) (cap : Nat), v = .slice o n cap → cs.length = n * i.size → (Builtin.firstCells i.size n (.slice o n cap)).run P w.drew = .ok cs.toArray w.drew → cap < n + m →
      ∃ v' w' bo', (Builtin.append_ #[t, tx] ty #[v, x]).run P w = .ok v' w' ∧ Row i.size w' v' (n + m) (cs ++ news) bo' ∧ (bo' = bo ∨ bo' = some w.heap.size) ∧ Fr bo.toList w w' := by
    rintro o cap rfl hcl hold hlt
    have hslice : Builtin.nextslicecap (n + m) cap ≤ 2 * (n + m) := nextslicecap_le hlt
    have hrun := run_append_grow_src (w := w) t tx ty e i z ht hi hz o n cap cs hold x m news hs hlt (by omega) (Nat.le_trans (Nat.mul_le_mul_right _ hslice) (by rw [Nat.mul_assoc]; omega))
    have hge := grownCap_ge w (n + m) cap e
    refine ⟨_, _, some w.heap.size, hrun, ?_, .inr rfl, ?_⟩
    · have hP := Pt.newA w.drew e ((cs ++ news).toArray ++ Builtin.zeroCells z.cells (grownCap w (n + m) cap e - (n + m)))
      have hc := hP.cell
      have hfz := hP.free
      have hsz : ((cs ++ news).toArray ++ Builtin.zeroCells z.cells (grownCap w (n + m) cap e - (n + m))).toList.length = grownCap w (n + m) cap e * i.size := by
        simp only [Array.toList_append, List.length_append, Builtin.zeroCells, Array.toList_map, List.length_map, Array.length_toList, Array.size_range, hzs]
        rw [hcl, hnl, ← Nat.add_mul, ← Nat.add_mul]
        congr 1
        omega
      refine .inr ⟨w.heap.size, 0, _, rfl, rfl, hge, by simp, by rw [List.length_append, hcl, hnl, Nat.add_mul], fun j hj => ?_, fun j hj => ?_⟩
      · refine ⟨?_, by rw [Nat.zero_add]; exact hfz j⟩
        rw [Nat.zero_add, show w.heap.size = w.drew.heap.size from rfl, hc j, List.getElem?_eq_getElem (by rw [hsz]; exact hj)]
        rfl
      · rw [Nat.zero_add, show w.heap.size = w.drew.heap.size from rfl, hc j, Array.toList_append, List.getElem?_append_left (by rw [List.length_append, hcl, hnl, ← Nat.add_mul]; exact hj)]
    · exact (Fr.refl _ w).drew.alloc _
  rcases h with ⟨rfl, rfl, rfl, o, rfl⟩ | ⟨b, off, cap, rfl, rfl, h3, h4, h5, h6, h7⟩
  · refine grow o 0 rfl (by simp) ?_ (by omega)
    cases o with
    | none => exact run_firstCells_none w.drew _ _ _ _
    | some a => exact run_firstCells_some w.drew _ _ a _ _ [] (by simp) (by simp)
  · by_cases hroom : n + m ≤ cap
    · have hcap : n * i.size + m * i.size ≤ cap * i.size := by rw [← Nat.add_mul]; exact Nat.mul_le_mul_right _ hroom
      have hrun := run_append_room_src (w := w) t tx ty e i ht hi b off n cap x m news hs hroom (fun j hj => by rw [Nat.add_assoc]; exact (h6 _ (by omega)).1) (fun j hj => by rw [Nat.add_assoc]; exact (h6 _ (by omega)).2)
      refine ⟨_, _, some b, hrun, ?_, .inl rfl, Fr.setCells (by simp) _ _ _ (Fr.refl _ _)⟩
      have hsz := (Fr.setCells (ex := [b]) (a := w) (b := b) (by simp) news (off + n * i.size) w (Fr.refl _ _)).size
      refine .inr ⟨b, off, cap, rfl, rfl, hroom, Nat.lt_of_lt_of_le h4 hsz, by rw [List.length_append, h5, hnl, Nat.add_mul], fun j hj => ⟨World.isSome_setCells b _ _ _ _ (h6 j hj).1, by rw [World.frozen?_setCells]; exact (h6 j hj).2⟩, fun j hj => ?_⟩
      by_cases hjn : j < n * i.size
      · rw [World.cell?_setCells_out _ _ _ _ _ (fun _ _ => .inl (show off + j < _ by omega)), h7 j hjn, List.getElem?_append_left (by omega)]
      · rw [Nat.add_mul] at hj
        have := World.cell?_setCells_in b news (off + n * i.size) w (fun j' hj' => by rw [Nat.add_assoc]; exact (h6 _ (by omega)).1) (j - n * i.size) (by omega)
        rw [show off + n * i.size + (j - n * i.size) = off + j by omega] at this
        rw [this, List.getElem?_append_right (by omega), h5, List.getElem?_eq_getElem (by omega)]
    · refine grow _ cap rfl h5 (run_firstCells_some w.drew _ _ _ _ _ cs h5 fun j u hu => ?_) (by omega)
      · have hj : j < cs.length := (List.getElem?_eq_some_iff.1 hu).1
        rw [Addr.add_lit]
        show w.cell? _ = _
        rw [h7 j (by omega), hu]
/-- .. of less than a million elements. -/
theorem Row.append (h : Row k w v n cs bo) {t tx ty e : TypeId} {i : TypeInfo} {z : Value} (ht : P.underlying t = some (.slice e)) (hi : P.info? e = some i) (hz : i.zero = some z) (hk : i.size = k) (hk0 : 0 < k)
    (hzs : z.cells.size = k) (hby : i.bytes ≤ 1024) (hn : n < 1000000) {x : Value} {m : Nat} {news : List Value} (hs : Src P k tx x m news w) (hm : m < 1000000) (hm0 : 0 < m) :
    ∃ v' w' bo', (Builtin.append_ #[t, tx] ty #[v, x]).run P w = .ok v' w' ∧ Row k w' v' (n + m) (cs ++ news) bo' ∧ (bo' = bo ∨ bo' = some w.heap.size) ∧ Fr bo.toList w w' :=
  h.appendW ht hi hz hk hk0 hzs hs hm0 (Nat.le_trans (Nat.mul_le_mul (show n + m ≤ 2000000 by omega) hby) (by omega)) (by omega)
end
end Go.Proofs.Ytehmfnpiidcbpaa
