import Derived.Test.YtnggimkkjdipmaaTB12
namespace Go.Proofs.Ytnggimkkjdipmaa
open Go.RowKit
set_option linter.unusedVariables false
set_option linter.unusedSimpArgs false
set_option maxHeartbeats 8000000
set_option maxRecDepth 20000
/-! ### What classes wants: keys in a map, rows of runes -/
def strK (l : List UInt8) : Value := .string ⟨l.toArray⟩
theorem isKey_str' (k : List UInt8) : MapKept.IsKey .string (strK k) := by simp [MapKept.IsKey, strK]
theorem strK_inj (a b : List UInt8) (h : strK a = strK b) : a = b := by
  unfold strK at h
  injection h with h
  injection h with h
  exact List.toArray_inj h
/-- The first place of a key. -/
def idxK {κ : Type} [DecidableEq κ] (l : List κ) (k : κ) : Nat := l.idxOf k
theorem idxK_cons {κ : Type} [DecidableEq κ] (l : List κ) (x k : κ) (h : ¬ x = k) : idxK (x :: l) k = idxK l k + 1 := by
  unfold idxK
  have hne : (x == k) = false := by simpa using h
  rw [List.idxOf_cons, hne]
  rfl
theorem idxK_head {κ : Type} [DecidableEq κ] (l : List κ) (k : κ) : idxK (k :: l) k = 0 := by simp [idxK]
theorem idxK_new {κ : Type} [DecidableEq κ] : ∀ (l : List κ) (k : κ), k ∉ l → idxK (l ++ [k]) k = l.length
  | [], k, _ => by simp [idxK]
  | x :: l, k, h => by
    have h1 : ¬ x = k := fun e => h (by simp [e])
    have h2 : k ∉ l := fun e => h (by simp [e])
    show idxK (x :: (l ++ [k])) k = _
    rw [idxK_cons _ _ _ h1, idxK_new l k h2]; rfl
theorem numG_snocK {κ : Type} [DecidableEq κ] (ks known : List κ) (k : κ) : numG known (ks ++ [k]) = ((numG known ks).1 ++ [idxK (addK (numG known ks).2 k) k], addK (numG known ks).2 k) := numG_snoc ks known k
def enumF : Nat → List (List UInt8) → List (List UInt8 × Value)
  | _, [] => []
  | n, k :: ks => (k, .int .i64 (n : Int)) :: enumF (n + 1) ks
theorem enumF_len : ∀ (ks : List (List UInt8)) (n : Nat), (enumF n ks).length = ks.length
  | [], _ => rfl
  | k :: ks, n => by simp [enumF, enumF_len ks]
theorem enumF_get : ∀ (ks : List (List UInt8)) (n : Nat) (k : List UInt8), kget (enumF n ks) k = if k ∈ ks then some (.int .i64 ((n + idxK ks k : Nat) : Int)) else none
  | [], _, _ => by simp [enumF, kget]
  | x :: ks, n, k => by
    unfold enumF kget
    by_cases h : x = k
    · subst h; simp [idxK_head]
    · rw [if_neg h, enumF_get ks (n + 1) k]
      by_cases hm : k ∈ ks
      · rw [if_pos hm, if_pos (List.mem_cons_of_mem _ hm), idxK_cons _ _ _ h]
        simp only [Option.some.injEq, Value.int.injEq, true_and]
        omega
      · have hm2 : ¬ k ∈ x :: ks := fun h2 => by
          rcases List.mem_cons.mp h2 with e | e
          · exact h e.symm
          · exact hm e
        rw [if_neg hm, if_neg hm2]
theorem enumF_set : ∀ (ks : List (List UInt8)) (n : Nat) (k : List UInt8), k ∉ ks → kset (enumF n ks) k (.int .i64 ((n + ks.length : Nat) : Int)) = enumF n (ks ++ [k])
  | [], n, k, _ => by simp [enumF, kset]
  | x :: ks, n, k, h => by
    have h1 : ¬ x = k := fun e => h (by simp [e])
    have h2 : k ∉ ks := fun e => h (by simp [e])
    have := enumF_set ks (n + 1) k h2
    unfold enumF kset
    rw [if_neg h1]
    show _ = (x, _) :: enumF (n + 1) (ks ++ [k])
    rw [← this]
    congr 2
    simp only [List.length_cons]
    congr 1
    congr 1
    omega
theorem uMapS : Try.prog.underlying 143 = some (.map 9 3) := by kernel_rfl
theorem zInt_run : ∀ w, (zeroValue 3).run Try.prog w = .ok (.int .i64 0) w := by
  intro w
  have hz : Try.t3.zero = some (.int .i64 0) := by kernel_rfl
  simp [zeroValue, run_underlying uInt, go_sem, hz]
/-- Runes, in a row. -/
theorem Row.twoR {w : World} {v : Value} {l : List Int} {bo : Option Nat} (h : Row 1 w v l.length (runes l) bo) (hn : l.length < 1000000) (x y : Int) :
    ∃ v' w' bo', (Builtin.append_ #[144, 144] 144 #[v, .slice (some ⟨w.heap.size, 0, none⟩) 2 2]).run Try.prog (w.alloc (.cells #[.int .i32 x, .int .i32 y] 21)) = .ok v' w' ∧
      Row 1 w' v' (l ++ [x, y]).length (runes (l ++ [x, y])) bo' ∧ (bo' = bo ∨ ∃ z, bo' = some z ∧ w.heap.size ≤ z) ∧ Fr bo.toList w w' := by
  have f1 : Fr [] w (w.alloc (.cells #[.int .i32 x, .int .i32 y] 21)) := (Fr.refl [] w).alloc _
  have P1 := Pt.newA w 21 #[.int .i32 x, .int .i32 y]
  have h1 := h.fr f1 (by simp)
  have hsrc : Src Try.prog 1 144 (.slice (some ⟨w.heap.size, 0, none⟩) 2 2) 2 (runes [x, y]) (w.alloc (.cells #[.int .i32 x, .int .i32 y] 21)) := Src.ofSlice _ uRunes ⟨w.heap.size, 0, none⟩ 2 2 _ rfl (fun j u hu => by rw [Addr.add_lit, P1.cell, Nat.zero_add]; exact hu) (by intro u hu; simp [runes] at hu; rcases hu with rfl | rfl <;> rfl)
  obtain ⟨v', w', bo', hrun, hr, hb, hf⟩ := h1.append (t := 144) (ty := 144) (e := 21) (i := iI32) (z := zI32) uRunes infoI32 (by kernel_rfl) (by kernel_rfl) (by omega) (by kernel_rfl) (of_decide_eq_true (by kernel_rfl)) hn hsrc (by omega) (by omega)
  refine ⟨v', w', bo', hrun, ?_, ?_, (f1.mono (by simp)).trans hf⟩
  · rw [show runes (l ++ [x, y]) = runes l ++ runes [x, y] from List.map_append, List.length_append]; exact hr
  · rcases hb with hb | hb
    · exact .inl hb
    · exact .inr ⟨_, hb, f1.size⟩
theorem Row.uin {w : World} {v : Value} {l : List Int} {bo : Option Nat} (h : Row 1 w v l.length (runes l) bo) : UIn w v l := by
  rcases h with ⟨_, h2, _, o, rfl⟩ | ⟨b, off, cap, hb, rfl, h3, h4, _, _, h7⟩
  · exact ⟨o, 0, by rw [h2], fun i h => by omega⟩
  · exact ⟨_, cap, rfl, fun i h => ⟨b, off, rfl, h4, by rw [h7 i (by omega)]; simp [runes, h]⟩⟩
/-- A new row of numbers, all 0. -/
theorem make_ints (n : Int) (w : World) (h0 : 0 ≤ n) (h1 : n ≤ 1000) :
    (Instr.makeSlice 25 (.int .i64 n) (.int .i64 n)).run Try.prog w = .ok (.slice (some ⟨w.heap.size, 0, none⟩) n.toNat n.toNat) (w.alloc (.cells (ints (List.replicate n.toNat 0)).toArray 3)) := by
  rw [run_make (P := Try.prog) w 25 3 iInt zInt uInts infoInt (by kernel_rfl) .i64 .i64 n n h0 (by omega) (by rw [show iInt.bytes = 8 by kernel_rfl]; omega) (by omega)]
  congr 3
  rw [show iInt.size = 1 by kernel_rfl, show zInt.cells = #[.int .i64 0] by kernel_rfl]
  unfold madeCells ints
  apply Array.ext
  · simp
  · intro i h1 h2
    simp [Nat.mod_one]
theorem ints_set (l : List Int) (i : Nat) (x : Int) : (ints l).set i (.int .i64 x) = ints (l.set i x) := by simp [ints]
/-- The numbers so far, the rest 0. -/
def half (c : List Int) (n : Nat) : List Int := c ++ List.replicate (n - c.length) 0
theorem half_set (c : List Int) (n : Nat) (h : c.length < n) (x : Int) : (half c n).set c.length x = half (c ++ [x]) n := by
  unfold half
  obtain ⟨k, hk⟩ : ∃ k, n - c.length = k + 1 := ⟨n - c.length - 1, by omega⟩
  rw [hk, List.replicate_succ, List.set_append_right _ _ (Nat.le_refl _), Nat.sub_self]
  simp only [List.set_cons_zero, List.length_append, List.length_cons, List.length_nil, List.append_assoc, List.cons_append, List.nil_append]
  rw [show n - (c.length + (0 + 1)) = k by omega]
theorem half_all (c : List Int) : half c c.length = c := by simp [half]
theorem half_nil (n : Nat) : half [] n = List.replicate n 0 := by simp [half]
theorem half_len (c : List Int) (n : Nat) (h : c.length ≤ n) : (half c n).length = n := by simp [half]; omega
theorem Pt.nin {w : World} {b : Nat} {l : List Int} {T : TypeId} (h : Pt w b T (ints l)) (n cap : Nat) (hn : n = l.length) : NIn w (.slice (some ⟨b, 0, none⟩) n cap) l := by
  subst hn
  exact ⟨_, cap, rfl, fun i hi => ⟨b, 0, rfl, h.lt, by rw [h.cell, Nat.zero_add]; simp [ints, hi]⟩⟩
end Go.Proofs.Ytnggimkkjdipmaa
