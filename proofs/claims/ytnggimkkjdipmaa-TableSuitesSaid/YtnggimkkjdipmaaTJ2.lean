import Derived.Test.YtnggimkkjdipmaaTP6
import Derived.Test.YtnggimkkjdipmaaMaps
import Derived.DeepKeys3
import Derived.Test.YtnggimkkjdipmaaTB26
import Derived.Deep.Cut
import Derived.Deep.CutRange
import Derived.Deep.CutBlock
namespace Go.Proofs.Ytnggimkkjdipmaa
open Go.RowKit
set_option linter.unusedVariables false
set_option linter.unusedSimpArgs false
/-! ### Maps whose keys are pairs (arrays, structs) -/
section
variable {κ : Type} {f : κ → Value} {w : World} {b : Nat} {l : List (κ × Value)} {P : Program} {t kt et : TypeId}
theorem MapK.allW {es : List MapEntry} (he : es.map (fun e => (e.key, e.val)) = l.map (fun x => (f x.1, x.2))) (hall : ∀ x ∈ l, ∃ q, keyOf P kt (f x.1) = some q) : ∀ e ∈ es, ∃ q, keyOf P kt e.key = some q := fun e hm => by
  have h1 : (e.key, e.val) ∈ l.map (fun x => (f x.1, x.2)) := by rw [← he]; exact List.mem_map.mpr ⟨e, hm, rfl⟩
  obtain ⟨x, hx, e1⟩ := List.mem_map.mp h1
  obtain ⟨q, hq⟩ := hall x hx
  exact ⟨q, by rw [← (Prod.mk.inj e1).1]; exact hq⟩
variable [DecidableEq κ]
theorem MapK.findW (K : WideMaps.KeyLaw P kt) {es : List MapEntry} (he : es.map (fun e => (e.key, e.val)) = l.map (fun x => (f x.1, x.2))) (hinj : ∀ a c, f a = f c → a = c) (hnd : (l.map (·.1)).Nodup) (hall : ∀ x ∈ l, ∃ q, keyOf P kt (f x.1) = some q) (k : κ) (hk : ∃ q, keyOf P kt (f k) = some q) (w : World) :
    ((Instr.findKey kt (f k) es).run P w = .ok none w ∧ kget l k = none) ∨ ∃ j v, (Instr.findKey kt (f k) es).run P w = .ok (some (j, v)) w ∧ kget l k = some v := by
  obtain ⟨q, hq⟩ := hk
  rcases K.find w hq es (MapK.allW he hall) with ⟨h1, h2⟩ | ⟨j, e, h1, h2, h3⟩
  · refine .inl ⟨h1, kget_none l k (fun hm => ?_)⟩
    obtain ⟨x, hx, rfl⟩ := List.mem_map.mp hm
    have h4 : (f x.1, x.2) ∈ es.map (fun e => (e.key, e.val)) := by rw [he]; exact List.mem_map.mpr ⟨x, hx, rfl⟩
    obtain ⟨e, hm2, e1⟩ := List.mem_map.mp h4
    exact h2 e hm2 (Prod.mk.inj e1).1
  · refine .inr ⟨j, e.val, h1, ?_⟩
    have h4 := congrArg (·[j]?) he
    simp only [List.getElem?_map, h2, Option.map_some] at h4
    obtain ⟨hj, _⟩ := List.getElem?_eq_some_iff.1 h2
    have hjl : j < l.length := by have := congrArg List.length he; simp at this; omega
    rw [List.getElem?_eq_getElem hjl, Option.map_some] at h4
    have h5 := Option.some.inj h4
    have hkj : l[j].1 = k := hinj _ _ ((Prod.mk.inj h5).1.symm.trans h3)
    have := kget_at l j hjl hnd
    rw [hkj] at this
    rw [this, (Prod.mk.inj h5).2]
theorem MapK.lookW (h : MapK f w b l) (K : WideMaps.KeyLaw P kt) (ht : P.underlying t = some (.map kt et)) (hinj : ∀ a c, f a = f c → a = c) (hnd : (l.map (·.1)).Nodup) (hall : ∀ x ∈ l, ∃ q, keyOf P kt (f x.1) = some q) {z : Value} (hz : (zeroValue et).run P w = .ok z w) (k : κ) (hk : ∃ q, keyOf P kt (f k) = some q) :
    (Instr.lookup t (.map (some b)) (f k) false).run P w = .ok ((kget l k).getD z) w := by
  obtain ⟨es, c, h, hst, he⟩ := h
  obtain ⟨q, hq⟩ := hk
  rcases MapK.findW K he hinj hnd hall k ⟨q, hq⟩ w with ⟨g1, g2⟩ | ⟨j, v, g1, g2⟩
  · simp [Instr.lookup, run_underlying ht, MapKept.run_getObj_map h, K.check w _ hq, g1, hz, g2, Result.andThen]
  · simp [Instr.lookup, run_underlying ht, MapKept.run_getObj_map h, K.check w _ hq, g1, g2, Result.andThen]
theorem MapK.newW (h : MapK f w b l) (K : WideMaps.KeyLaw P kt) (ht : P.underlying t = some (.map kt et)) (hinj : ∀ a c, f a = f c → a = c) (hnd : (l.map (·.1)).Nodup) (hall : ∀ x ∈ l, ∃ q, keyOf P kt (f x.1) = some q) (k : κ) (hk : ∃ q, keyOf P kt (f k) = some q) (hn : kget l k = none) (u : Value) :
    ∃ w', (Instr.mapUpdate t (.map (some b)) (f k) u).run P w = .ok () w' ∧ MapK f w' b (l ++ [(k, u)]) ∧ Fr [b] w w' := by
  have hl := h.lt
  obtain ⟨es, c, h, hst, he⟩ := h
  obtain ⟨q, hq⟩ := hk
  have hfr : ∀ o, Fr [b] w (w.putObj b o) := fun o => ⟨rfl, rfl, rfl, by simp [World.putObj], fun k _ hx => World.putObj_heap_other (fun e => hx (by simp [e]))⟩
  rcases MapK.findW K he hinj hnd hall k ⟨q, hq⟩ w with ⟨g1, _⟩ | ⟨j, v, _, g2⟩
  · refine ⟨w.putObj b (.map (es.push { key := f k, val := u, born := c }) (c + 1)), ?_, ⟨_, _, World.putObj_heap_same hl, hst.push _ rfl, by simp [he]⟩, hfr _⟩
    simp [Instr.mapUpdate, run_underlying ht, MapKept.run_getObj_map h, K.check w _ hq, g1, MapKept.run_setObj_map _ h, Result.andThen, World.putObj]
  · rw [hn] at g2; cases g2
end
/-- A pair of numbers as a key. -/
def pairK (p : Int × Int) : Value := .agg #[.int .i64 p.1, .int .i64 p.2]
theorem pairK_inj (a c : Int × Int) (h : pairK a = pairK c) : a = c := by
  unfold pairK at h
  simp at h
  exact Prod.ext h.1 h.2
theorem lawArr : WideMaps.KeyLaw Try.prog 93 := deep_law (m := 5) (by omega) (by kernel_rfl) (by kernel_rfl) (by kernel_rfl)
theorem lawPair : WideMaps.KeyLaw Try.prog 125 := deep_law (m := 5) (by omega) (by kernel_rfl) (by kernel_rfl) (by kernel_rfl)
theorem keyArr (p : Int × Int) (h1 : 0 ≤ p.1 ∧ p.1 ≤ 1000) (h2 : 0 ≤ p.2 ∧ p.2 ≤ 1000) : ∃ q, keyOf Try.prog 93 (pairK p) = some q := by
  have hu : Try.prog.underlying 93 = some (.array 2 3) := by kernel_rfl
  have hk : Try.prog.keyType 93 = true := by kernel_rfl
  have w1 : (Lit.int .i64 p.1).wf = true := by
    simp [Lit.wf, show IntKind.i64.min = -9223372036854775808 by decide +kernel, show IntKind.i64.max = 9223372036854775807 by decide +kernel]; omega
  have w2 : (Lit.int .i64 p.2).wf = true := by
    simp [Lit.wf, show IntKind.i64.min = -9223372036854775808 by decide +kernel, show IntKind.i64.max = 9223372036854775807 by decide +kernel]; omega
  have hs : ∃ n, Try.prog.types.size + 1 = n + 1 + 1 := ⟨Try.prog.types.size - 1, by have : 1 ≤ Try.prog.types.size := of_decide_eq_true (by kernel_rfl); omega⟩
  obtain ⟨n, hn⟩ := hs
  have hc : Try.prog.cellsOf 93 = 2 := by kernel_rfl
  have hc1 : Try.prog.cellsOf 3 = 1 := by kernel_rfl
  have hkl : ∃ ls, Try.prog.keyLits (Try.prog.types.size + 1) 93 (pairK p).cells.toList = some ls := by
    rw [hn]
    unfold Program.keyLits
    rw [hu]
    simp [pairK, Value.cells, hc, hc1, List.range, List.range.loop, Program.keyLits, uInt, w1, w2]
  obtain ⟨ls, hls⟩ := hkl
  have hf : (pairK p).formed Try.prog 93 = true := by
    simp [Value.formed, pairK, hu, hc]
  refine ⟨.string (keyBytes ls), ?_⟩
  unfold keyOf
  rw [hu]
  simp only [hk, hf, Bool.and_self, if_true, hls, Option.map_some]
end Go.Proofs.Ytnggimkkjdipmaa
namespace Go.Proofs.Ytnggimkkjdipmaa
open Go.RowKit
set_option linter.unusedVariables false
set_option linter.unusedSimpArgs false
set_option maxHeartbeats 16000000
set_option maxRecDepth 100000
/-- A test of a pair, handed to slices. -/
theorem indexP_any (v : Value) (ls : List (Int × Int)) (w : World) (hD : PIn w v ls) (hn : ls.length ≤ 9223372036854775807) (fn : FuncId) (bs : Array Value) (p : Int × Int → Bool) (hcf : ∀ W args, (callFunc fn args).run Try.prog W = .ok (.enter fn args) W)
    (hp : ∀ W x, Fr [] w W → x ∈ ls → Calls Try.prog fn (#[.agg #[.int .i64 x.1, .int .i64 x.2]] ++ bs) W fun e w' => e = .returned (.bool (p x)) ∧ Fr [] W w') :
    Calls Try.prog 59 #[v, .func (.func fn) #[] bs] w fun e w' => (∃ k : Int, e = .returned (.int .i64 k) ∧ decide (0 ≤ k) = ls.any p ∧ (0 ≤ k → ∃ h : k.toNat < ls.length, p ls[k.toNat] = true ∧ (ls.take k.toNat).any p = false)) ∧ Fr [] w w' := by
  obtain ⟨o, cap, rfl, hl⟩ := hD
  replace hl := Lib.hid hl; replace hp := Lib.hid hp
  go_enter Try.func59, Try.ntmps59
  go_wp2_with fail
  go_loopg [8] (ls.length + 1) (fun k v wr => ∃ i : Nat, i ≤ ls.length ∧ k + i = ls.length + 1 ∧ v = .int .i64 i ∧ (ls.take i).any p = false ∧ Fr [] w wr)
  case atStart => exact ⟨0, by omega, by omega, rfl, by simp, Fr.refl _ _⟩
  case round =>
    obtain ⟨i, hi, hk, rfl, hni, hF⟩ := hrel
    by_cases hlt : i < ls.length
    · have hltI : (i : Int) < ls.length := by omega
      obtain ⟨b, off, rfl, hb, hc, hc'⟩ := hl.out i hlt
      have c1 := hF.cell (p := ⟨b, off + i * 2, none⟩) hb (by simp)
      rw [hc] at c1
      have c2 := hF.cell (p := ⟨b, off + i * 2 + 1, none⟩) hb (by simp)
      rw [hc'] at c2
      have hcall := Lib.hid (hp.out wr ls[i] hF (List.getElem_mem hlt))
      have hfst : p ls[i] = true → (0 ≤ (i : Int) → ∃ h : (i : Int).toNat < ls.length, p ls[(i : Int).toNat] = true ∧ (ls.take (i : Int).toNat).any p = false) := fun h _ => ⟨hlt, h, hni⟩
      have hnn : p ls[i] = false → (ls.take (i + 1)).any p = false := fun h => by
        rw [List.take_succ_eq_append_getElem hlt, List.any_append, hni]
        simp [h]
      have hyes : p ls[i] = true → ls.any p = true := fun h => List.any_eq_true.mpr ⟨_, List.getElem_mem hlt, h⟩
      replace hni := Lib.hid hni; replace hnn := Lib.hid hnn; replace hyes := Lib.hid hyes; replace hF := Lib.hid hF; replace hfst := Lib.hid hfst
      obtain ⟨py, hpy⟩ : ∃ t, p ls[i] = t := ⟨_, rfl⟩
      rw [hpy] at hcall hnn hyes
      have hpy' := Lib.hid hpy
      obtain ⟨⟨y1, y2⟩, hy⟩ : ∃ y, ls[i] = y := ⟨_, rfl⟩
      rw [hy] at c1 c2 hcall
      dsimp only at c1 c2 hcall
      replace hy := Lib.hid hy
      clear hpy hc hc'
      go_wp2_with fail
      try rw [hcf]
      refine hcall.out.mono ?_
      rintro e w1 ⟨rfl, f1⟩
      have F1 := Lib.hid (hF.out.trans f1)
      cases py
      · go_wp2_with fail
        go_roundg (gk - 1)
        case measure => omega
        case rel => exact ⟨i + 1, by omega, by omega, by go_num, hnn.out trivial, F1.out⟩
      · go_wp2_with fail
        go_ret
        exact ⟨⟨i, rfl, by rw [hyes.out trivial]; simp, hfst.out hpy'.out⟩, F1.out⟩
    · have hltI : ¬ (i : Int) < ls.length := by omega
      have hid : i = ls.length := by omega
      subst hid
      rw [List.take_length] at hni
      replace hni := Lib.hid hni; replace hF := Lib.hid hF
      go_wp2_with fail
      go_ret
      exact ⟨⟨-1, rfl, by rw [hni.out]; rfl, fun h => by omega⟩, hF.out⟩
theorem containsP_any (v : Value) (ls : List (Int × Int)) (w : World) (hD : PIn w v ls) (hn : ls.length ≤ 9223372036854775807) (fn : FuncId) (bs : Array Value) (p : Int × Int → Bool) (hcf : ∀ W args, (callFunc fn args).run Try.prog W = .ok (.enter fn args) W)
    (hp : ∀ W x, Fr [] w W → x ∈ ls → Calls Try.prog fn (#[.agg #[.int .i64 x.1, .int .i64 x.2]] ++ bs) W fun e w' => e = .returned (.bool (p x)) ∧ Fr [] W w') :
    Calls Try.prog 57 #[v, .func (.func fn) #[] bs] w fun e w' => e = .returned (.bool (ls.any p)) ∧ Fr [] w w' := by
  have H := Lib.hid (indexP_any v ls w hD hn fn bs p hcf hp)
  clear hD hp
  go_enter Try.func57, Try.ntmps57
  go_wp2_with fail
  refine H.out.mono ?_
  rintro e w1 ⟨⟨k, rfl, hk, _⟩, hf⟩
  replace hk := Lib.hid hk; replace hf := Lib.hid hf
  go_wp2_with fail
  go_ret
  exact ⟨ret_b hk.out, hf.out⟩
end Go.Proofs.Ytnggimkkjdipmaa
namespace Go.Proofs.Ytnggimkkjdipmaa
open Go.RowKit
set_option linter.unusedVariables false
set_option linter.unusedSimpArgs false
set_option maxHeartbeats 16000000
set_option maxRecDepth 100000
theorem cf_prod1 : ∀ W args, (callFunc 58 args).run Try.prog W = .ok (.enter 58 args) W := by
  intro W args
  have hb : Try.f58.body.isNone = false := by kernel_rfl
  simp [callFunc, go_sem, Try.func58]
  rw [if_neg (by decide +kernel), if_neg (fun h => by rw [h] at hb; cases hb)]
theorem cf_prod2 : ∀ W args, (callFunc 60 args).run Try.prog W = .ok (.enter 60 args) W := by
  intro W args
  have hb : Try.f60.body.isNone = false := by kernel_rfl
  simp [callFunc, go_sem, Try.func60]
  rw [if_neg (by decide +kernel), if_neg (fun h => by rw [h] at hb; cases hb)]
theorem prod1_any (U : Tb) (r : Value) (b : Nat) (x : Int × Int) (w : World) (hP : Pt w b TTab [.int .i64 U.st, .int .i64 U.ev, .int .i64 U.sr, r]) :
    Calls Try.prog 58 #[.agg #[.int .i64 x.1, .int .i64 x.2], .pointer (some ⟨b, 0, none⟩)] w fun e w' => e = .returned (.bool (decide (x.2 < 0) || decide (U.ev ≤ x.2))) ∧ Fr [] w w' := by
  obtain ⟨x1, x2⟩ := x
  dsimp only
  obtain ⟨w1, hw1⟩ : ∃ y, w.alloc (.cells #[.int .i64 x1, .int .i64 x2] 93) = y := ⟨_, rfl⟩
  have P1 := Pt.newA w 93 #[.int .i64 x1, .int .i64 x2]
  rw [hw1] at P1
  have F1 : Fr [] w w1 := by rw [← hw1]; exact (Fr.refl [] w).alloc _
  have Q1 := F1.pt hP (by simp)
  have k1 := P1.cell
  have q1 := Q1.cell
  obtain ⟨bx, hbx⟩ : ∃ y, w.heap.size = y := ⟨_, rfl⟩
  rw [hbx] at k1
  replace P1 := Lib.hid P1; replace F1 := Lib.hid F1; replace Q1 := Lib.hid Q1
  clear hP
  by_cases h : x2 < 0
  · rw [decide_eq_true h, Bool.true_or]
    go_enter Try.func58, Try.ntmps58
    go_wp2_with fail
    go_ret
    exact ⟨rfl, F1.out⟩
  · rw [decide_eq_false h, Bool.false_or]
    go_enter Try.func58, Try.ntmps58
    go_wp2_with fail
    go_ret
    exact ⟨rfl, F1.out⟩
theorem prod2_any (r1 r2 : Int) (b : Nat) (x : Int × Int) (w : World) (hP : Pt w b TRow [.int .i64 r1, .int .i64 r2]) :
    Calls Try.prog 60 #[.agg #[.int .i64 x.1, .int .i64 x.2], .pointer (some ⟨b, 0, none⟩)] w fun e w' => e = .returned (.bool (x.1 == r2)) ∧ Fr [] w w' := by
  obtain ⟨x1, x2⟩ := x
  dsimp only
  obtain ⟨w1, hw1⟩ : ∃ y, w.alloc (.cells #[.int .i64 x1, .int .i64 x2] 93) = y := ⟨_, rfl⟩
  have P1 := Pt.newA w 93 #[.int .i64 x1, .int .i64 x2]
  rw [hw1] at P1
  have F1 : Fr [] w w1 := by rw [← hw1]; exact (Fr.refl [] w).alloc _
  have Q1 := F1.pt hP (by simp)
  have k1 := P1.cell
  have q1 := Q1.cell
  obtain ⟨bx, hbx⟩ : ∃ y, w.heap.size = y := ⟨_, rfl⟩
  rw [hbx] at k1
  replace P1 := Lib.hid P1; replace F1 := Lib.hid F1; replace Q1 := Lib.hid Q1
  clear hP
  go_enter Try.func60, Try.ntmps60
  go_wp2_with fail
  go_ret
  exact ⟨rfl, F1.out⟩
end Go.Proofs.Ytnggimkkjdipmaa
namespace Go.Proofs.Ytnggimkkjdipmaa
open Go.RowKit
set_option linter.unusedVariables false
set_option linter.unusedSimpArgs false
set_option maxHeartbeats 16000000
set_option maxRecDepth 100000
/-- A queue of pairs: its first, and what is left. -/
theorem Row.popP {w : World} {v : Value} {x : Int × Int} {t : List (Int × Int)} {bo : Option Nat} (h : Row 2 w v (x :: t).length (pcells (x :: t)) bo) :
    ∃ b off cap, v = .slice (some ⟨b, off, none⟩) (t.length + 1) cap ∧ t.length + 1 ≤ cap ∧ b < w.heap.size ∧ bo = some b ∧ w.cell? ⟨b, off, none⟩ = some (.int .i64 x.1) ∧ w.cell? ⟨b, off + 1, none⟩ = some (.int .i64 x.2) ∧
      ∀ u, u = (if cap = 1 then Value.slice (some ⟨b, off, none⟩) t.length 0 else .slice (some ⟨b, off + 2, none⟩) t.length (cap - 1)) → ∃ o', Row 2 w u t.length (pcells t) o' ∧ (o' = bo ∨ o' = none) := by
  have hcl : pcells (x :: t) = [.int .i64 x.1, .int .i64 x.2] ++ pcells t := rfl
  rcases h with ⟨_, h2, _⟩ | ⟨b, off, cap, hb, hv, h3, h4, h5, h6, h7⟩
  · simp at h2
  · simp only [List.length_cons] at h3 h5 h7
    refine ⟨b, off, cap, hv, h3, h4, hb, ?_, ?_, fun u hu => ?_⟩
    · have := h7 0 (by omega)
      rw [Nat.add_zero] at this
      rw [this, hcl]; rfl
    · rw [h7 1 (by omega), hcl]; rfl
    · by_cases hc1 : cap = 1
      · rw [if_pos hc1] at hu
        have hr0 : t = [] := by cases t with | nil => rfl | cons _ _ => simp at h3; omega
        subst hr0
        rw [hu]
        exact ⟨none, Row.nil 2 w _, .inr rfl⟩
      · rw [if_neg hc1] at hu
        refine ⟨some b, .inr ⟨b, off + 2, cap - 1, rfl, hu, by omega, h4, pcells_len t, fun j hj => ?_, fun j hj => ?_⟩, .inl hb.symm⟩
        · rw [Nat.add_assoc]; exact h6 _ (by omega)
        · rw [Nat.add_assoc, h7 _ (by omega), hcl, List.getElem?_append_right (show 2 ≤ 2 + j by omega)]
          congr 1
          show 2 + j - 2 = j
          omega
end Go.Proofs.Ytnggimkkjdipmaa
namespace Go.Proofs.Ytnggimkkjdipmaa
open Go.RowKit
set_option linter.unusedVariables false
set_option linter.unusedSimpArgs false
set_option maxHeartbeats 16000000
set_option maxRecDepth 100000
theorem uPairsJ : Try.prog.underlying 39 = some (.slice 93) := by kernel_rfl
noncomputable def iArr2 : TypeInfo := (Try.prog.info? 93).getD default
theorem infoArr2 : Try.prog.info? 93 = some iArr2 := by kernel_rfl
noncomputable def zArr2 : Value := iArr2.zero.getD (.int .i64 0)
def prK (L : List (Int × Int)) : List ((Int × Int) × Value) := L.map fun x => (x, .bool true)
theorem prK_keys (L : List (Int × Int)) : (prK L).map (·.1) = L := by
  unfold prK; rw [List.map_map]; exact List.map_id _
theorem prK_len (L : List (Int × Int)) : (prK L).length = L.length := by simp [prK]
theorem prK_snoc (L : List (Int × Int)) (x : Int × Int) : prK (L ++ [x]) = prK L ++ [(x, .bool true)] := by simp [prK]
theorem prK_get : ∀ (L : List (Int × Int)) (x : Int × Int), (kget (prK L) x).getD (.bool false) = .bool (decide (x ∈ L))
  | [], x => by simp [prK, kget]
  | y :: L, x => by
    have ih := prK_get L x
    by_cases e : y = x
    · subst e
      simp [prK, kget]
    · simp only [prK, List.map_cons, kget, e, if_false] at ih ⊢
      rw [ih]
      congr 1
      have : x ≠ y := fun h => e h.symm
      simp [this]
theorem bool_zero : ∀ w, (zeroValue 4).run Try.prog w = .ok (.bool false) w := by
  intro w
  have hu : Try.prog.underlying 4 = some .bool := by kernel_rfl
  have hz : Try.t4.zero = some (.bool false) := by kernel_rfl
  simp [zeroValue, run_underlying hu, go_sem, hz]
/-- Product, in the midst. -/
structure PjI (A B : Tb) (w : World) (b1 b2 bm : Nat) (ra rb : Value) (i : Nat) (L : List (Int × Int)) (wr : World) (v : Value) (bo : Option Nat) : Prop where
  p1 : Pt wr b1 TTab [.int .i64 A.st, .int .i64 A.ev, .int .i64 A.sr, ra]
  p2 : Pt wr b2 TTab [.int .i64 B.st, .int .i64 B.ev, .int .i64 B.sr, rb]
  q : Row 2 wr v (L.drop i).length (pcells (L.drop i)) bo
  mp : MapK pairK wr bm (prK L)
  out : ∀ z, bo = some z → bm < z
  g0 : w.heap.size ≤ b1
  g1 : b1 < b2
  g2 : b2 < bm
  fr : Fr [] w wr
variable {A B : Tb} {w : World} {b1 b2 bm : Nat} {ra rb : Value} {i : Nat} {L : List (Int × Int)} {wr : World} {v : Value} {bo : Option Nat}
theorem PjI.frz (h : PjI A B w b1 b2 bm ra rb i L wr v bo) {W : World} (f : Fr [] wr W) : PjI A B w b1 b2 bm ra rb i L W v bo :=
  ⟨f.pt h.p1 (by simp), f.pt h.p2 (by simp), h.q.fr f (by simp), h.mp.fr f (by simp), h.out, h.g0, h.g1, h.g2, h.fr.trans f⟩
theorem PrOk.keys (hO : PrOk A B L) (h1 : A.st ≤ 30) (h2 : B.st ≤ 30) : ∀ x ∈ prK L, ∃ q, keyOf Try.prog 93 (pairK x.1) = some q := fun x hx => by
  have hm : x.1 ∈ L := by rw [← prK_keys L]; exact List.mem_map.mpr ⟨x, hx, rfl⟩
  have := hO.rng _ hm
  exact keyArr _ (by omega) (by omega)
theorem uMapP : Try.prog.underlying 95 = some (.map 93 4) := by kernel_rfl
theorem PjI.ask (h : PjI A B w b1 b2 bm ra rb i L wr v bo) (hO : PrOk A B L) (h1 : A.st ≤ 30) (h2 : B.st ≤ 30) (x : Int × Int) (hx : 0 ≤ x.1 ∧ x.1 < A.st ∧ 0 ≤ x.2 ∧ x.2 < B.st) {W : World} (f : Fr [] wr W) :
    (Instr.lookup 95 (.map (some bm)) (.agg #[.int .i64 x.1, .int .i64 x.2]) false).run Try.prog W = .ok (.bool (decide (x ∈ L))) W := by
  have := (h.mp.fr f (by simp)).lookW (P := Try.prog) (t := 95) lawArr uMapP pairK_inj (by rw [prK_keys]; exact hO.nd) (hO.keys h1 h2) (bool_zero W) x (keyArr _ (by omega) (by omega))
  rw [prK_get] at this
  exact this
theorem PjI.put (h : PjI A B w b1 b2 bm ra rb i L wr v bo) (hO : PrOk A B L) (h1 : A.st ≤ 30) (h2 : B.st ≤ 30) (x : Int × Int) (hx : 0 ≤ x.1 ∧ x.1 < A.st ∧ 0 ≤ x.2 ∧ x.2 < B.st) (hn : x ∉ L) {W : World} (f : Fr [] wr W) :
    ∃ w6, (Instr.mapUpdate 95 (.map (some bm)) (.agg #[.int .i64 x.1, .int .i64 x.2]) (.bool true)).run Try.prog W = .ok () w6 ∧ MapK pairK w6 bm (prK (L ++ [x])) ∧ Fr [bm] W w6 := by
  obtain ⟨w6, UP, M6, f6⟩ := (h.mp.fr f (by simp)).newW (P := Try.prog) (t := 95) lawArr uMapP pairK_inj (by rw [prK_keys]; exact hO.nd) (hO.keys h1 h2) x (keyArr _ (by omega) (by omega)) (kget_none _ _ (by rw [prK_keys]; exact hn)) (.bool true)
  exact ⟨w6, UP, by rw [prK_snoc]; exact M6, f6⟩
theorem PjI.add (h : PjI A B w b1 b2 bm ra rb i L wr v bo) (hl : L.length ≤ 1000) (hi : i ≤ L.length) (x : Int × Int) {W w6 : World} (f : Fr [] wr W) (M6 : MapK pairK w6 bm (prK (L ++ [x]))) (f6 : Fr [bm] W w6) :
    ∃ v' w9 bo', (Builtin.append_ #[39, 39] 39 #[v, .slice (some ⟨w6.heap.size, 0, none⟩) 1 1]).run Try.prog (w6.alloc (.cells #[.int .i64 x.1, .int .i64 x.2] 93)) = .ok v' w9 ∧
      PjI A B w b1 b2 bm ra rb i (L ++ [x]) w9 v' bo' := by
  have hgm : ∀ z, bo = some z → z ≠ bm := fun z hz => by have := h.out z hz; omega
  have l1 := h.p1.lt
  have l2 := h.p2.lt
  have l3 := h.mp.lt
  have g0 := h.g0
  have g1 := h.g1
  have g2 := h.g2
  have s1 := f.size
  have s6 := f6.size
  have q6 := (h.q.fr f (by simp)).fr f6 (fun z hz => by simp; exact hgm z hz)
  have fa : Fr [] w6 (w6.alloc (.cells #[.int .i64 x.1, .int .i64 x.2] 93)) := (Fr.refl [] w6).alloc _
  have qa := q6.fr fa (by simp)
  have P1 := Pt.newA w6 93 #[.int .i64 x.1, .int .i64 x.2]
  have hsrc : Src Try.prog 2 39 (.slice (some ⟨w6.heap.size, 0, none⟩) 1 1) 1 (pcells [x]) (w6.alloc (.cells #[.int .i64 x.1, .int .i64 x.2] 93)) :=
    Src.ofSlice _ uPairsJ ⟨w6.heap.size, 0, none⟩ 1 1 _ rfl (fun j u hu => by rw [Addr.add_lit, P1.cell, Nat.zero_add]; simpa [pcells] using hu) (by intro u hu; simp [pcells] at hu; rcases hu with rfl | rfl <;> rfl)
  obtain ⟨v', w9, bo', hrun, hr, hb, hf⟩ := qa.append (t := 39) (ty := 39) (e := 93) (i := iArr2) (z := zArr2) uPairsJ infoArr2 (by kernel_rfl) (by kernel_rfl) (by omega) (by kernel_rfl) (of_decide_eq_true (by kernel_rfl)) (by simp; omega) hsrc (by omega) (by omega)
  have hnb : ∀ b, b ≤ bm → b ∉ bo.toList := fun b hb1 hm => by have := h.out b (by simpa using hm); omega
  refine ⟨v', w9, bo', hrun, ?_, ?_, ?_, (M6.fr fa (by simp)).fr hf (hnb bm (Nat.le_refl _)), fun z hz => ?_, g0, g1, g2, ?_⟩
  · exact hf.pt (fa.pt (f6.pt (f.pt h.p1 (by simp)) (by simp; omega)) (by simp)) (hnb _ (by omega))
  · exact hf.pt (fa.pt (f6.pt (f.pt h.p2 (by simp)) (by simp; omega)) (by simp)) (hnb _ (by omega))
  · rw [List.drop_append_of_le_length hi, pcells_app, List.length_append]; exact hr
  · rcases hb with hb | hb
    · rw [hb] at hz; exact h.out z hz
    · rw [hb] at hz; cases hz
      have := fa.size; omega
  · refine (((h.fr.trans f).step f6 (fun b hb1 => .inr ?_)).trans (fa)).step hf (fun b hb1 => .inr ?_)
    · simp at hb1; omega
    · have := h.out b (by simpa using hb1); omega
/-- The head of the queue. -/
theorem PjI.head (h : PjI A B w b1 b2 bm ra rb i L wr v bo) (hi : i < L.length) : ∃ b off n cap, v = .slice (some ⟨b, off, none⟩) (n + 1) cap ∧ n + 1 ≤ cap ∧ b < wr.heap.size ∧ wr.cell? ⟨b, off, none⟩ = some (.int .i64 L[i].1) ∧ wr.cell? ⟨b, off + 1, none⟩ = some (.int .i64 L[i].2) ∧ n + 1 = L.length - i ∧
    ∀ u, u = (if cap = 1 then Value.slice (some ⟨b, off, none⟩) n 0 else .slice (some ⟨b, off + 2, none⟩) n (cap - 1)) → ∃ o', PjI A B w b1 b2 bm ra rb (i + 1) L wr u o' := by
  have hd : L.drop i = L[i] :: L.drop (i + 1) := List.drop_eq_getElem_cons hi
  have hq := h.q
  rw [hd] at hq
  obtain ⟨b, off, cap, rfl, hc, hb, hbo, c1, c2, hn⟩ := hq.popP
  refine ⟨b, off, _, cap, rfl, hc, hb, c1, c2, by simp; omega, fun u hu => ?_⟩
  obtain ⟨o', hr, ho⟩ := hn u hu
  refine ⟨o', h.p1, h.p2, hr, h.mp, fun z hz => ?_, h.g0, h.g1, h.g2, h.fr⟩
  rcases ho with e | e
  · rw [e] at hz; exact h.out z hz
  · rw [e] at hz; cases hz
end Go.Proofs.Ytnggimkkjdipmaa
namespace Go.Proofs.Ytnggimkkjdipmaa
open Go.RowKit
set_option linter.unusedVariables false
set_option linter.unusedSimpArgs false
set_option maxHeartbeats 16000000
set_option maxRecDepth 100000
/-! ### Lists of pairs with a word, of the reference's -/
abbrev TPr : TypeId := 98
theorem uPrs : Try.prog.underlying 99 = some (.slice TPr) := by kernel_rfl
noncomputable def iPr : TypeInfo := (Try.prog.info? TPr).getD default
theorem infoPr : Try.prog.info? TPr = some iPr := by kernel_rfl
noncomputable def zPr : Value := iPr.zero.getD (.int .i64 0)
def tcells (l : List ((Int × Int) × Value)) : List Value := l.flatMap fun x => [.int .i64 x.1.1, .int .i64 x.1.2, x.2]
theorem tcells_app (l r : List ((Int × Int) × Value)) : tcells (l ++ r) = tcells l ++ tcells r := by simp [tcells]
theorem tcells_len (l : List ((Int × Int) × Value)) : (tcells l).length = l.length * 3 := by
  induction l with
  | nil => rfl
  | cons x l ih => simp only [tcells, List.flatMap_cons, List.length_append, List.length_cons, List.length_nil] at ih ⊢; omega
theorem tcells_get : ∀ (l : List ((Int × Int) × Value)) (i : Nat) (h : i < l.length), (tcells l)[i * 3]? = some (.int .i64 l[i].1.1) ∧ (tcells l)[i * 3 + 1]? = some (.int .i64 l[i].1.2) ∧ (tcells l)[i * 3 + 2]? = some l[i].2
  | x :: l, 0, _ => by simp [tcells]
  | x :: l, i + 1, h => by
    have := tcells_get l i (by simpa using h)
    have e : tcells (x :: l) = [.int .i64 x.1.1, .int .i64 x.1.2, x.2] ++ tcells l := rfl
    rw [e]
    refine ⟨?_, ?_, ?_⟩
    · rw [List.getElem?_append_right (by simp; omega)]
      simp only [List.length_cons, List.length_nil, List.getElem_cons_succ]
      rw [show (i + 1) * 3 - (0 + 1 + 1 + 1) = i * 3 by omega]
      exact this.1
    · rw [List.getElem?_append_right (by simp; omega)]
      simp only [List.length_cons, List.length_nil, List.getElem_cons_succ]
      rw [show (i + 1) * 3 + 1 - (0 + 1 + 1 + 1) = i * 3 + 1 by omega]
      exact this.2.1
    · rw [List.getElem?_append_right (by simp; omega)]
      simp only [List.length_cons, List.length_nil, List.getElem_cons_succ]
      rw [show (i + 1) * 3 + 2 - (0 + 1 + 1 + 1) = i * 3 + 2 by omega]
      exact this.2.2
theorem Row.atT {w : World} {v : Value} {l : List ((Int × Int) × Value)} {bo : Option Nat} (h : Row 3 w v l.length (tcells l) bo) (i : Nat) (hi : i < l.length) :
    ∃ b off cap, bo = some b ∧ v = .slice (some ⟨b, off, none⟩) l.length cap ∧ b < w.heap.size ∧ w.cell? ⟨b, off + i * 3, none⟩ = some (.int .i64 l[i].1.1) ∧ w.cell? ⟨b, off + i * 3 + 1, none⟩ = some (.int .i64 l[i].1.2) ∧ w.cell? ⟨b, off + i * 3 + 2, none⟩ = some l[i].2 := by
  rcases h with ⟨_, h2, _, _⟩ | ⟨b, off, cap, hb, e, h3, h4, _, _, h7⟩
  · omega
  · obtain ⟨g1, g2, g3⟩ := tcells_get l i hi
    exact ⟨b, off, cap, hb, e, h4, by rw [h7 _ (by omega)]; exact g1, by rw [Nat.add_assoc, h7 _ (by omega)]; exact g2, by rw [Nat.add_assoc, h7 _ (by omega)]; exact g3⟩
theorem Row.addT {w : World} {v : Value} {l : List ((Int × Int) × Value)} {bo : Option Nat} (h : Row 3 w v l.length (tcells l) bo) (hn : l.length < 1000000) (x : (Int × Int) × Value) (h1 : x.2.oneCell' = true) :
    ∃ v' w' bo', (Builtin.append_ #[99, 99] 99 #[v, .slice (some ⟨w.heap.size, 0, none⟩) 1 1]).run Try.prog (w.alloc (.cells #[.int .i64 x.1.1, .int .i64 x.1.2, x.2] TPr)) = .ok v' w' ∧
      Row 3 w' v' (l ++ [x]).length (tcells (l ++ [x])) bo' ∧ (bo' = bo ∨ ∃ z, bo' = some z ∧ w.heap.size ≤ z) ∧ Fr bo.toList w w' := by
  have f1 : Fr [] w (w.alloc (.cells #[.int .i64 x.1.1, .int .i64 x.1.2, x.2] TPr)) := (Fr.refl [] w).alloc _
  have P1 := Pt.newA w TPr #[.int .i64 x.1.1, .int .i64 x.1.2, x.2]
  have hr1 := h.fr f1 (by simp)
  have hsrc : Src Try.prog 3 99 (.slice (some ⟨w.heap.size, 0, none⟩) 1 1) 1 (tcells [x]) (w.alloc (.cells #[.int .i64 x.1.1, .int .i64 x.1.2, x.2] TPr)) :=
    Src.ofSlice _ uPrs ⟨w.heap.size, 0, none⟩ 1 1 _ rfl (fun j u hu => by rw [Addr.add_lit, P1.cell, Nat.zero_add]; simpa [tcells] using hu) (by intro u hu; simp [tcells] at hu; rcases hu with rfl | rfl | rfl; rfl; rfl; exact h1)
  obtain ⟨v', w', bo', hrun, hr, hb, hf⟩ := hr1.append (t := 99) (ty := 99) (e := TPr) (i := iPr) (z := zPr) uPrs infoPr (by kernel_rfl) (by kernel_rfl) (by omega) (by kernel_rfl) (of_decide_eq_true (by kernel_rfl)) hn hsrc (by omega) (by omega)
  refine ⟨v', w', bo', hrun, ?_, ?_, (f1.mono (by simp)).trans hf⟩
  · rw [tcells_app, List.length_append]; exact hr
  · rcases hb with hb | hb
    · exact .inl hb
    · exact .inr ⟨_, hb, f1.size⟩
def nilW (L : List (Int × Int)) : List ((Int × Int) × Value) := L.map fun x => (x, .slice none 0 0)
theorem nilW_len (L : List (Int × Int)) : (nilW L).length = L.length := by simp [nilW]
theorem nilW_snoc (L : List (Int × Int)) (x : Int × Int) : nilW (L ++ [x]) = nilW L ++ [(x, .slice none 0 0)] := by simp [nilW]
theorem nilW_get (L : List (Int × Int)) (i : Nat) (h : i < L.length) : (nilW L)[i]'(by simp [nilW]; exact h) = (L[i], .slice none 0 0) := by simp [nilW]
/-- The reference's Product, in the midst. -/
structure PrI (A B : Tb) (w : World) (b1 b2 : Nat) (ra rb : Value) (L : List (Int × Int)) (wr : World) (v : Value) (bo : Option Nat) : Prop where
  p1 : Pt wr b1 RTab [.int .i64 A.st, .int .i64 A.ev, .int .i64 A.sr, ra]
  p2 : Pt wr b2 RTab [.int .i64 B.st, .int .i64 B.ev, .int .i64 B.sr, rb]
  q : Row 3 wr v (nilW L).length (tcells (nilW L)) bo
  out : ∀ z, bo = some z → b2 < z
  g0 : w.heap.size ≤ b1
  g1 : b1 < b2
  fr : Fr [] w wr
variable {A B : Tb} {w : World} {b1 b2 : Nat} {ra rb : Value} {i : Nat} {L : List (Int × Int)} {wr : World} {v : Value} {bo : Option Nat}
theorem PrI.frz (h : PrI A B w b1 b2 ra rb L wr v bo) {W : World} (f : Fr [] wr W) : PrI A B w b1 b2 ra rb L W v bo :=
  ⟨f.pt h.p1 (by simp), f.pt h.p2 (by simp), h.q.fr f (by simp), h.out, h.g0, h.g1, h.fr.trans f⟩
theorem PrI.at (h : PrI A B w b1 b2 ra rb L wr v bo) (hi : i < L.length) : ∃ b off cap, v = .slice (some ⟨b, off, none⟩) L.length cap ∧ b < wr.heap.size ∧ wr.cell? ⟨b, off + i * 3, none⟩ = some (.int .i64 L[i].1) ∧ wr.cell? ⟨b, off + i * 3 + 1, none⟩ = some (.int .i64 L[i].2) := by
  obtain ⟨b, off, cap, _, e, hb, c1, c2, _⟩ := h.q.atT i (by rw [nilW_len]; exact hi)
  rw [nilW_get L i hi] at c1 c2
  rw [nilW_len] at e
  exact ⟨b, off, cap, e, hb, c1, c2⟩
theorem PrI.add (h : PrI A B w b1 b2 ra rb L wr v bo) (hl : L.length ≤ 1000) (x : Int × Int) {W : World} (f : Fr [] wr W) :
    ∃ v' w9 bo', (Builtin.append_ #[99, 99] 99 #[v, .slice (some ⟨W.heap.size, 0, none⟩) 1 1]).run Try.prog (W.alloc (.cells #[.int .i64 x.1, .int .i64 x.2, .slice none 0 0] TPr)) = .ok v' w9 ∧
      PrI A B w b1 b2 ra rb (L ++ [x]) w9 v' bo' := by
  have l1 := h.p1.lt
  have l2 := h.p2.lt
  have g0 := h.g0
  have g1 := h.g1
  have s1 := f.size
  obtain ⟨v', w9, bo', hrun, hr, hb, hf⟩ := (h.q.fr f (by simp)).addT (by rw [nilW_len]; omega) (x, .slice none 0 0) rfl
  have hnb : ∀ b, b ≤ b2 → b ∉ bo.toList := fun b hb1 hm => by have := h.out b (by simpa using hm); omega
  refine ⟨v', w9, bo', hrun, ?_, ?_, ?_, fun z hz => ?_, g0, g1, ?_⟩
  · exact hf.pt (f.pt h.p1 (by simp)) (hnb _ (by omega))
  · exact hf.pt (f.pt h.p2 (by simp)) (hnb _ (by omega))
  · rw [nilW_snoc]; exact hr
  · rcases hb with hb | ⟨z', hb, hz'⟩
    · rw [hb] at hz; exact h.out z hz
    · rw [hb] at hz; cases hz; omega
  · refine (h.fr.trans f).step hf (fun b hb1 => .inr ?_)
    have := h.out b (by simpa using hb1); omega
end Go.Proofs.Ytnggimkkjdipmaa
