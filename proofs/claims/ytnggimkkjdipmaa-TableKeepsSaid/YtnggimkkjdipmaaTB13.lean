import Derived.Test.YtnggimkkjdipmaaTB11
import Derived.Laws.MakeOwn
import Derived.Laws.BytesString
import Derived.Laws.Cells
namespace Go.Proofs.Ytnggimkkjdipmaa
open Go.RowKit
set_option linter.unusedVariables false
set_option linter.unusedSimpArgs false
set_option maxHeartbeats 8000000
set_option maxRecDepth 20000
/-! ### keyed -/
def runes (l : List Int) : List Value := l.map (.int .i32)
def bvals (l : List UInt8) : List Value := l.map fun b => .int .u8 (b.toNat : Int)
theorem bvals_len (l : List UInt8) : (bvals l).length = l.length := List.length_map _
theorem uRunes : Try.prog.underlying 144 = some (.slice 21) := by kernel_rfl
theorem uI32 : Try.prog.underlying 21 = some (.int .i32) := by kernel_rfl
theorem uBytes : Try.prog.underlying 152 = some (.slice 5) := by kernel_rfl
theorem uU8 : Try.prog.underlying 5 = some (.int .u8) := by kernel_rfl
theorem uString : Try.prog.underlying 9 = some .string := by kernel_rfl
noncomputable def iU8 : TypeInfo := (Try.prog.info? 5).getD default
theorem infoU8 : Try.prog.info? 5 = some iU8 := by kernel_rfl
noncomputable def zU8 : Value := iU8.zero.getD default
noncomputable def iI32 : TypeInfo := (Try.prog.info? 21).getD default
theorem infoI32 : Try.prog.info? 21 = some iI32 := by kernel_rfl
noncomputable def zI32 : Value := iI32.zero.getD default
theorem Row.twoB {w : World} {v : Value} {l : List UInt8} {bo : Option Nat} (h : Row 1 w v l.length (bvals l) bo) (hn : l.length < 1000000) (x y : UInt8) :
    ∃ v' w' bo', (Builtin.append_ #[152, 152] 152 #[v, .slice (some ⟨w.heap.size, 0, none⟩) 2 2]).run Try.prog (w.alloc (.cells #[.int .u8 (x.toNat : Int), .int .u8 (y.toNat : Int)] 5)) = .ok v' w' ∧
      Row 1 w' v' (l ++ [x, y]).length (bvals (l ++ [x, y])) bo' ∧ (bo' = bo ∨ ∃ z, bo' = some z ∧ w.heap.size ≤ z) ∧ Fr bo.toList w w' := by
  have f1 : Fr [] w (w.alloc (.cells #[.int .u8 (x.toNat : Int), .int .u8 (y.toNat : Int)] 5)) := (Fr.refl [] w).alloc _
  have P1 := Pt.newA w 5 #[.int .u8 (x.toNat : Int), .int .u8 (y.toNat : Int)]
  have h1 := h.fr f1 (by simp)
  have hsrc : Src Try.prog 1 152 (.slice (some ⟨w.heap.size, 0, none⟩) 2 2) 2 (bvals [x, y]) (w.alloc (.cells #[.int .u8 (x.toNat : Int), .int .u8 (y.toNat : Int)] 5)) := Src.ofSlice _ uBytes ⟨w.heap.size, 0, none⟩ 2 2 _ rfl (fun j u hu => by rw [Addr.add_lit, P1.cell, Nat.zero_add]; exact hu) (by intro u hu; simp [bvals] at hu; rcases hu with rfl | rfl <;> rfl)
  obtain ⟨v', w', bo', hrun, hr, hb, hf⟩ := h1.append (t := 152) (ty := 152) (e := 5) (i := iU8) (z := zU8) uBytes infoU8 (by kernel_rfl) (by kernel_rfl) (by omega) (by kernel_rfl) (of_decide_eq_true (by kernel_rfl)) hn hsrc (by omega) (by omega)
  refine ⟨v', w', bo', hrun, ?_, ?_, (f1.mono (by simp)).trans hf⟩
  · rw [show bvals (l ++ [x, y]) = bvals l ++ bvals [x, y] from List.map_append, List.length_append]; exact hr
  · rcases hb with hb | hb
    · exact .inl hb
    · exact .inr ⟨_, hb, f1.size⟩
/-- string(b). -/
theorem str_of_row {w : World} {v : Value} {l : List UInt8} {bo : Option Nat} (h : Row 1 w v l.length (bvals l) bo) :
    (convert 152 9 v).run Try.prog w = .ok (.string ⟨l.toArray⟩) w := by
  have hfold : ∀ (l : List UInt8) (s : ByteArray), (l.map fun b => (b.toNat : Int)).foldl (fun r n => r.push (UInt8.ofNat n.toNat)) s = ⟨s.data ++ l.toArray⟩ := by
    intro l
    induction l with
    | nil => intro s; simp
    | cons b l ih =>
      intro s
      simp only [List.map_cons, List.foldl_cons, ih]
      congr 1
      simp [ByteArray.push]
  obtain ⟨o, cap, rfl⟩ := h.len
  rw [run_convert_bytes_string w _ _ _ _ _ _ uBytes uU8 uString]
  rcases h with ⟨_, h2, _, o', h4⟩ | ⟨b, off, cap', hb, he, h3, h4, h5, _, h7⟩
  · have hl : l = [] := List.eq_nil_of_length_eq_zero h2
    subst hl
    cases h4
    cases o with
    | none =>
      simp [Conv.bytesToString, ByteArray.empty, ByteArray.emptyWithCapacity]
      rfl
    | some a =>
      rw [run_bytesToString w a _ _ [] (by simp [loadCells, loadCellsFrom])]
      rfl
  · cases he
    have hc := run_loadCells (P := Try.prog) (w := w) ⟨b, off, none⟩ l.length (fun j => .int .u8 ((l.getD j 0).toNat : Int)) (fun j hj => by
      rw [Addr.add_lit, h7 j (by omega)]
      simp [bvals, hj])
    rw [run_bytesToString w _ _ _ (l.map fun b => (b.toNat : Int)) (by
      rw [hc]
      congr 2
      apply List.ext_getElem
      · simp
      · intro i h1 h2
        have hi : i < l.length := by simpa using h1
        simp [hi])]
    rw [hfold]
    simp [ByteArray.empty, ByteArray.emptyWithCapacity]
    rfl
theorem keyB_snoc (l : List Int) (n : Int) : keyB (l ++ [n]) = keyB l ++ [byteI ((n + 1) / 256), byteI (n + 1)] := by simp [keyB]
theorem keyB_len (l : List Int) : (keyB l).length = 2 * l.length := by
  induction l with
  | nil => rfl
  | cons x l ih => simp only [keyB, List.flatMap_cons, List.length_append, List.length_cons, List.length_nil] at ih ⊢; omega
theorem byteI_val (n : Int) (h0 : 0 ≤ n) : ((byteI n).toNat : Int) = n % 256 := by unfold byteI; simp; omega
/-- A list of runes. -/
def UIn (w : World) (v : Value) (l : List Int) : Prop := ∃ o cap, v = .slice o l.length cap ∧ ∀ i (h : i < l.length), ∃ b off, o = some ⟨b, off, none⟩ ∧ b < w.heap.size ∧ w.cell? ⟨b, off + i, none⟩ = some (.int .i32 l[i])
theorem keyed_any (v : Value) (l : List Int) (w : World) (hD : UIn w v l) (hr : ∀ n ∈ l, -1 ≤ n ∧ n ≤ 999) (hl : l.length ≤ 100) :
    Calls Try.prog 103 #[v] w fun e w' => e = .returned (.string ⟨(keyB l).toArray⟩) ∧ Fr [] w w' := by
  obtain ⟨o, cap, rfl, hd⟩ := hD
  have hmk := run_make (P := Try.prog) w 152 5 iU8 zU8 uBytes infoU8 (by kernel_rfl) .i64 .i64 0 (2 * (l.length : Int)) (by omega) (by omega) (by rw [show iU8.bytes = 1 by kernel_rfl]; omega) (by omega)
  obtain ⟨C, hC⟩ : ∃ C, madeCells zU8.cells ((2 * (l.length : Int)).toNat * iU8.size) = C := ⟨_, rfl⟩
  have hCs : C.size = 2 * l.length := by rw [← hC, size_madeCells, show iU8.size = 1 by kernel_rfl]; omega
  rw [hC] at hmk
  clear hC
  obtain ⟨w1, hw1⟩ : ∃ x, w.alloc (.cells C 5) = x := ⟨_, rfl⟩
  have P1 := Pt.newA w 5 C
  rw [hw1] at P1 hmk
  have F1 : Fr [] w w1 := by rw [← hw1]; exact (Fr.refl [] w).alloc _
  obtain ⟨bb, hbb⟩ : ∃ x, w.heap.size = x := ⟨_, rfl⟩
  rw [hbb] at P1 hmk
  rw [show (0 : Int).toNat = 0 from rfl, show (2 * (l.length : Int)).toNat = 2 * l.length by omega] at hmk
  have R0 : Row 1 w1 (.slice (some ⟨bb, 0, none⟩) 0 (2 * l.length)) 0 (bvals []) (some bb) := by
    refine .inr ⟨bb, 0, 2 * l.length, rfl, rfl, by omega, P1.lt, by simp [bvals], fun j hj => ⟨?_, by rw [Nat.zero_add]; exact P1.free j⟩, fun j hj => by omega⟩
    rw [Nat.zero_add, P1.cell, List.getElem?_eq_getElem (by rw [Array.length_toList, hCs]; omega)]
    rfl
  replace hd := Lib.hid hd; replace hr := Lib.hid hr; replace P1 := Lib.hid P1; replace F1 := Lib.hid F1; replace R0 := Lib.hid R0; replace hCs := Lib.hid hCs
  clear hw1
  go_enter Try.func103, Try.ntmps103
  go_wp2_with fail
  go_loopg [3, 12] (l.length + 1) (fun k v3 v12 wr => ∃ (i : Nat) (bo : Option Nat), i ≤ l.length ∧ k + i = l.length + 1 ∧ v12 = .int .i64 i ∧ Row 1 wr v3 (keyB (l.take i)).length (bvals (keyB (l.take i))) bo ∧ (∀ z, bo = some z → w.heap.size ≤ z) ∧ Fr [] w wr)
  case atStart => exact ⟨0, some bb, by omega, by omega, rfl, R0.out, by simp; omega, F1.out⟩
  case round =>
    obtain ⟨i, bo, hi, hk, rfl, hrw, hbo, hF⟩ := hrel
    by_cases hlt : i < l.length
    · have hltI : (i : Int) < l.length := by omega
      obtain ⟨b, off, rfl, hb, hc⟩ := hd.out i hlt
      have hrn := hr.out _ (List.getElem_mem hlt)
      have hsn : l.take (i + 1) = l.take i ++ [l[i]] := List.take_succ_eq_append_getElem hlt
      obtain ⟨n, hn⟩ : ∃ n, l[i] = n := ⟨_, rfl⟩
      rw [hn] at hc hrn hsn
      have ci := hF.cell (p := ⟨b, off + i, none⟩) hb (by simp)
      rw [hc] at ci
      obtain ⟨v', w5, bo', happ, hrw5, hbo5, f5⟩ := hrw.twoB (by rw [keyB_len, List.length_take]; omega) (byteI ((n + 1) / 256)) (byteI (n + 1))
      rw [← keyB_snoc, ← hsn] at hrw5
      rw [byteI_val _ (by omega), byteI_val _ (by omega)] at happ
      have q0 : IntKind.i32.wrap (n + 1) = n + 1 := by rw [IntKind.wrap_i32]; omega
      have q1 : IntKind.u8.wrap ((n + 1) / 256) = (n + 1) / 256 % 256 := by rw [IntKind.wrap_u8]
      have q2 : IntKind.u8.wrap (n + 1) = (n + 1) % 256 := by rw [IntKind.wrap_u8]
      have q3 : (2 : Int) ^ 8 = 256 := by decide
      have hbo5' : ∀ z, bo' = some z → w.heap.size ≤ z := fun z hz => by
        rcases hbo5 with h | ⟨z', h, h2⟩
        · exact hbo z (by rw [← h]; exact hz)
        · rw [hz] at h; cases h
          have := hF.size; omega
      have F5 : Fr [] w w5 := hF.step f5 (fun z hz => .inr (hbo z (by simpa using hz)))
      replace happ := Lib.hid happ; replace hrw5 := Lib.hid hrw5; replace hbo5 := Lib.hid hbo5; replace hbo5' := Lib.hid hbo5'; replace F5 := Lib.hid F5; replace f5 := Lib.hid f5; replace hsn := Lib.hid hsn; replace hrw := Lib.hid hrw; replace hbo := Lib.hid hbo; replace hF := Lib.hid hF; replace hn := Lib.hid hn
      clear hc
      go_wp2_with (first | (at_builtin; refine wpList_append_run _ rfl _ _ _ rfl rfl rfl happ.out ?_))
      go_roundg (gk - 1)
      case measure => omega
      case rel => exact ⟨i + 1, bo', by omega, by omega, by go_num, hrw5.out, hbo5'.out, F5.out⟩
    · have hltI : ¬ (i : Int) < l.length := by omega
      rw [List.take_of_length_le (by omega)] at hrw
      have hst := str_of_row hrw
      replace hrw := Lib.hid hrw; replace hF := Lib.hid hF
      go_wp2_with fail
      go_ret
      exact ⟨rfl, hF.out⟩
end Go.Proofs.Ytnggimkkjdipmaa
namespace Go.Proofs.Ytnggimkkjdipmaa
open Go.RowKit
set_option linter.unusedVariables false
set_option linter.unusedSimpArgs false
set_option maxHeartbeats 8000000
set_option maxRecDepth 20000
/-! ### What classes wants: keys in a map, rows of runes -/
def strK (l : List UInt8) : Value := .string ⟨l.toArray⟩
theorem isKey_str' (k : List UInt8) : MapKept.IsKey .string (strK k) := by simp [MapKept.IsKey, strK]
theorem strK_inj (a b : List UInt8) (h : strK a = strK b) : a = b := by
  unfold strK at h
  injection h with h
  injection h with h
  exact List.toArray_inj h
/-- The first place of a key. -/
def idxK {κ : Type} [DecidableEq κ] (l : List κ) (k : κ) : Nat := l.idxOf k
theorem idxK_cons {κ : Type} [DecidableEq κ] (l : List κ) (x k : κ) (h : ¬ x = k) : idxK (x :: l) k = idxK l k + 1 := by
  unfold idxK
  have hne : (x == k) = false := by simpa using h
  rw [List.idxOf_cons, hne]
  rfl
theorem idxK_head {κ : Type} [DecidableEq κ] (l : List κ) (k : κ) : idxK (k :: l) k = 0 := by simp [idxK]
theorem idxK_new {κ : Type} [DecidableEq κ] : ∀ (l : List κ) (k : κ), k ∉ l → idxK (l ++ [k]) k = l.length
  | [], k, _ => by simp [idxK]
  | x :: l, k, h => by
    have h1 : ¬ x = k := fun e => h (by simp [e])
    have h2 : k ∉ l := fun e => h (by simp [e])
    show idxK (x :: (l ++ [k])) k = _
    rw [idxK_cons _ _ _ h1, idxK_new l k h2]; rfl
theorem numG_snocK {κ : Type} [DecidableEq κ] (ks known : List κ) (k : κ) : numG known (ks ++ [k]) = ((numG known ks).1 ++ [idxK (addK (numG known ks).2 k) k], addK (numG known ks).2 k) := numG_snoc ks known k
def enumF : Nat → List (List UInt8) → List (List UInt8 × Value)
  | _, [] => []
  | n, k :: ks => (k, .int .i64 (n : Int)) :: enumF (n + 1) ks
theorem enumF_len : ∀ (ks : List (List UInt8)) (n : Nat), (enumF n ks).length = ks.length
  | [], _ => rfl
  | k :: ks, n => by simp [enumF, enumF_len ks]
theorem enumF_get : ∀ (ks : List (List UInt8)) (n : Nat) (k : List UInt8), kget (enumF n ks) k = if k ∈ ks then some (.int .i64 ((n + idxK ks k : Nat) : Int)) else none
  | [], _, _ => by simp [enumF, kget]
  | x :: ks, n, k => by
    unfold enumF kget
    by_cases h : x = k
    · subst h; simp [idxK_head]
    · rw [if_neg h, enumF_get ks (n + 1) k]
      by_cases hm : k ∈ ks
      · rw [if_pos hm, if_pos (List.mem_cons_of_mem _ hm), idxK_cons _ _ _ h]
        simp only [Option.some.injEq, Value.int.injEq, true_and]
        omega
      · have hm2 : ¬ k ∈ x :: ks := fun h2 => by
          rcases List.mem_cons.mp h2 with e | e
          · exact h e.symm
          · exact hm e
        rw [if_neg hm, if_neg hm2]
theorem enumF_set : ∀ (ks : List (List UInt8)) (n : Nat) (k : List UInt8), k ∉ ks → kset (enumF n ks) k (.int .i64 ((n + ks.length : Nat) : Int)) = enumF n (ks ++ [k])
  | [], n, k, _ => by simp [enumF, kset]
  | x :: ks, n, k, h => by
    have h1 : ¬ x = k := fun e => h (by simp [e])
    have h2 : k ∉ ks := fun e => h (by simp [e])
    have := enumF_set ks (n + 1) k h2
    unfold enumF kset
    rw [if_neg h1]
    show _ = (x, _) :: enumF (n + 1) (ks ++ [k])
    rw [← this]
    congr 2
    simp only [List.length_cons]
    congr 1
    congr 1
    omega
theorem uMapS : Try.prog.underlying 143 = some (.map 9 3) := by kernel_rfl
theorem zInt_run : ∀ w, (zeroValue 3).run Try.prog w = .ok (.int .i64 0) w := by
  intro w
  have hz : Try.t3.zero = some (.int .i64 0) := by kernel_rfl
  simp [zeroValue, run_underlying uInt, go_sem, hz]
/-- Runes, in a row. -/
theorem Row.twoR {w : World} {v : Value} {l : List Int} {bo : Option Nat} (h : Row 1 w v l.length (runes l) bo) (hn : l.length < 1000000) (x y : Int) :
    ∃ v' w' bo', (Builtin.append_ #[144, 144] 144 #[v, .slice (some ⟨w.heap.size, 0, none⟩) 2 2]).run Try.prog (w.alloc (.cells #[.int .i32 x, .int .i32 y] 21)) = .ok v' w' ∧
      Row 1 w' v' (l ++ [x, y]).length (runes (l ++ [x, y])) bo' ∧ (bo' = bo ∨ ∃ z, bo' = some z ∧ w.heap.size ≤ z) ∧ Fr bo.toList w w' := by
  have f1 : Fr [] w (w.alloc (.cells #[.int .i32 x, .int .i32 y] 21)) := (Fr.refl [] w).alloc _
  have P1 := Pt.newA w 21 #[.int .i32 x, .int .i32 y]
  have h1 := h.fr f1 (by simp)
  have hsrc : Src Try.prog 1 144 (.slice (some ⟨w.heap.size, 0, none⟩) 2 2) 2 (runes [x, y]) (w.alloc (.cells #[.int .i32 x, .int .i32 y] 21)) := Src.ofSlice _ uRunes ⟨w.heap.size, 0, none⟩ 2 2 _ rfl (fun j u hu => by rw [Addr.add_lit, P1.cell, Nat.zero_add]; exact hu) (by intro u hu; simp [runes] at hu; rcases hu with rfl | rfl <;> rfl)
  obtain ⟨v', w', bo', hrun, hr, hb, hf⟩ := h1.append (t := 144) (ty := 144) (e := 21) (i := iI32) (z := zI32) uRunes infoI32 (by kernel_rfl) (by kernel_rfl) (by omega) (by kernel_rfl) (of_decide_eq_true (by kernel_rfl)) hn hsrc (by omega) (by omega)
  refine ⟨v', w', bo', hrun, ?_, ?_, (f1.mono (by simp)).trans hf⟩
  · rw [show runes (l ++ [x, y]) = runes l ++ runes [x, y] from List.map_append, List.length_append]; exact hr
  · rcases hb with hb | hb
    · exact .inl hb
    · exact .inr ⟨_, hb, f1.size⟩
theorem Row.uin {w : World} {v : Value} {l : List Int} {bo : Option Nat} (h : Row 1 w v l.length (runes l) bo) : UIn w v l := by
  rcases h with ⟨_, h2, _, o, rfl⟩ | ⟨b, off, cap, hb, rfl, h3, h4, _, _, h7⟩
  · exact ⟨o, 0, by rw [h2], fun i h => by omega⟩
  · exact ⟨_, cap, rfl, fun i h => ⟨b, off, rfl, h4, by rw [h7 i (by omega)]; simp [runes, h]⟩⟩
/-- A new row of numbers, all 0. -/
theorem make_ints (n : Int) (w : World) (h0 : 0 ≤ n) (h1 : n ≤ 1000) :
    (Instr.makeSlice 25 (.int .i64 n) (.int .i64 n)).run Try.prog w = .ok (.slice (some ⟨w.heap.size, 0, none⟩) n.toNat n.toNat) (w.alloc (.cells (ints (List.replicate n.toNat 0)).toArray 3)) := by
  rw [run_make (P := Try.prog) w 25 3 iInt zInt uInts infoInt (by kernel_rfl) .i64 .i64 n n h0 (by omega) (by rw [show iInt.bytes = 8 by kernel_rfl]; omega) (by omega)]
  congr 3
  rw [show iInt.size = 1 by kernel_rfl, show zInt.cells = #[.int .i64 0] by kernel_rfl]
  unfold madeCells ints
  apply Array.ext
  · simp
  · intro i h1 h2
    simp [Nat.mod_one]
theorem ints_set (l : List Int) (i : Nat) (x : Int) : (ints l).set i (.int .i64 x) = ints (l.set i x) := by simp [ints]
/-- The numbers so far, the rest 0. -/
def half (c : List Int) (n : Nat) : List Int := c ++ List.replicate (n - c.length) 0
theorem half_set (c : List Int) (n : Nat) (h : c.length < n) (x : Int) : (half c n).set c.length x = half (c ++ [x]) n := by
  unfold half
  obtain ⟨k, hk⟩ : ∃ k, n - c.length = k + 1 := ⟨n - c.length - 1, by omega⟩
  rw [hk, List.replicate_succ, List.set_append_right _ _ (Nat.le_refl _), Nat.sub_self]
  simp only [List.set_cons_zero, List.length_append, List.length_cons, List.length_nil, List.append_assoc, List.cons_append, List.nil_append]
  rw [show n - (c.length + (0 + 1)) = k by omega]
theorem half_all (c : List Int) : half c c.length = c := by simp [half]
theorem half_nil (n : Nat) : half [] n = List.replicate n 0 := by simp [half]
theorem half_len (c : List Int) (n : Nat) (h : c.length ≤ n) : (half c n).length = n := by simp [half]; omega
theorem Pt.nin {w : World} {b : Nat} {l : List Int} {T : TypeId} (h : Pt w b T (ints l)) (n cap : Nat) (hn : n = l.length) : NIn w (.slice (some ⟨b, 0, none⟩) n cap) l := by
  subst hn
  exact ⟨_, cap, rfl, fun i hi => ⟨b, 0, rfl, h.lt, by rw [h.cell, Nat.zero_add]; simp [ints, hi]⟩⟩
end Go.Proofs.Ytnggimkkjdipmaa
