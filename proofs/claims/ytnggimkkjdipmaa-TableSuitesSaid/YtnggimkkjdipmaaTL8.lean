import Derived.Test.YtnggimkkjdipmaaTL5
import Derived.Test.YtnggimkkjdipmaaTD3
import Derived.Test.YtnggimkkjdipmaaTL11
import Derived.Test.YtnggimkkjdipmaaTB19
namespace Go.Proofs.Ytnggimkkjdipmaa
open Go.RowKit
set_option linter.unusedVariables false
set_option linter.unusedSimpArgs false
set_option maxHeartbeats 16000000
set_option maxRecDepth 100000
/-! ### tells: the words that tell the states of a least table apart -/
theorem uWds : Try.prog.underlying 53 = some (.slice 25) := by kernel_rfl
noncomputable def iWd : TypeInfo := (Try.prog.info? 25).getD default
theorem infoWd : Try.prog.info? 25 = some iWd := by kernel_rfl
noncomputable def zWd : Value := iWd.zero.getD default
theorem bytesWd : iWd.bytes = 24 := by kernel_rfl
/-- One more word. -/
theorem Row.oneWs {w : World} {v : Value} {l : List Value} {bo : Option Nat} (h : Row 1 w v l.length l bo) (hn : (l.length + 1) * 24 ≤ 140737488355328) (x : Value) (hx : x.oneCell' = true) :
    ∃ v' w' bo', (Builtin.append_ #[53, 53] 53 #[v, .slice (some ⟨w.heap.size, 0, none⟩) 1 1]).run Try.prog (w.alloc (.cells #[x] 25)) = .ok v' w' ∧
      Row 1 w' v' (l ++ [x]).length (l ++ [x]) bo' ∧ (bo' = bo ∨ ∃ z, bo' = some z ∧ w.heap.size ≤ z) ∧ Fr bo.toList w w' := by
  have f1 : Fr [] w (w.alloc (.cells #[x] 25)) := (Fr.refl [] w).alloc _
  have P1 := Pt.newA w 25 #[x]
  have h1 := h.fr f1 (by simp)
  have hsrc : Src Try.prog 1 53 (.slice (some ⟨w.heap.size, 0, none⟩) 1 1) 1 [x] (w.alloc (.cells #[x] 25)) := Src.ofSlice _ uWds ⟨w.heap.size, 0, none⟩ 1 1 _ rfl (fun j u hu => by rw [Addr.add_lit, P1.cell, Nat.zero_add]; exact hu) (by intro u hu; simp at hu; rw [hu]; exact hx)
  obtain ⟨v', w', bo', hrun, hr, hb, hf⟩ := h1.appendW (t := 53) (ty := 53) (e := 25) (i := iWd) (z := zWd) uWds infoWd (by kernel_rfl) (by kernel_rfl) (by omega) (by kernel_rfl) hsrc (by omega) (by rw [bytesWd]; exact hn) (by omega)
  refine ⟨v', w', bo', hrun, ?_, ?_, (f1.mono (by simp)).trans hf⟩
  · rw [List.length_append]; exact hr
  · rcases hb with hb | hb
    · exact .inl hb
    · exact .inr ⟨_, hb, f1.size⟩
theorem Wds.add {q : Nat → Prop} {w : World} {v : Value} {ps : List (Value × List Int)} {bo : Option Nat} (h : Wds q w v ps bo) {W w9 : World} (f : Fr [] w W) {u v' : Value} {word : List Int} {bo' : Option Nat}
    (hu : NInB (fun b => w.heap.size ≤ b) W u word) (hq : ∀ z, w.heap.size ≤ z → q z) (hr : Row 1 w9 v' (ps.map (·.1) ++ [u]).length (ps.map (·.1) ++ [u]) bo') (hb : bo' = bo ∨ ∃ z, bo' = some z ∧ W.heap.size ≤ z) (f9 : Fr bo.toList W w9) :
    Wds q w9 v' (ps ++ [(u, word)]) bo' := by
  have s1 := f.size
  have hlo : ∀ z, bo = some z → z < w.heap.size := fun z hz => by have h3 := h.row; rw [hz] at h3; exact h3.lt
  have hout : ∀ b, b < W.heap.size → b ∉ bo.toList → b ∉ bo'.toList := fun b hb1 hb2 hm => by
    rcases hb with e | ⟨z, e, hz⟩
    · rw [e] at hm; exact hb2 hm
    · rw [e] at hm; simp at hm; omega
  refine ⟨by simpa using hr, fun p hp => ?_, fun z hz => ?_⟩
  · rcases List.mem_append.mp hp with hp | hp
    · refine (h.each p hp).frq ((f.mono (by simp)).trans f9 : Fr bo.toList w w9) (fun b hb1 hq1 => ⟨hq1.2, hq1.1, hout b (by omega) hq1.2⟩)
    · simp at hp
      subst hp
      exact hu.frq f9 (fun b hb1 hb2 => by
        have hn : b ∉ bo.toList := fun hm => by have := hlo b (by simpa using hm); omega
        exact ⟨hn, hq b hb2, hout b hb1 hn⟩)
  · rcases hb with e | ⟨z', e, hz'⟩
    · rw [e] at hz; exact h.qo z hz
    · rw [e] at hz; cases hz; exact hq _ (by omega)
/-- The words for a's pairs up to b. -/
def tellRow (T : Tb) (a b : Nat) : List (List Int) := (List.range' (a + 1) (b - (a + 1))).filterMap fun c : Nat => differT T T a c
/-- The words for the first n states' pairs. -/
def tellAll (T : Tb) (n : Nat) : List (List Int) := (List.range n).flatMap fun a => tellRow T a T.st.toNat
theorem tellRow_start (T : Tb) (a : Nat) : tellRow T a (a + 1) = [] := by simp [tellRow]
theorem tellRow_step (T : Tb) (a b : Nat) (h : a + 1 ≤ b) : tellRow T a (b + 1) = tellRow T a b ++ (differT T T a b).toList := by
  unfold tellRow
  rw [show b + 1 - (a + 1) = (b - (a + 1)) + 1 by omega, List.range'_concat, List.filterMap_append, Nat.one_mul, show a + 1 + (b - (a + 1)) = b by omega]
  congr 1
theorem tellAll_step (T : Tb) (n : Nat) : tellAll T (n + 1) = tellAll T n ++ tellRow T n T.st.toNat := by
  unfold tellAll
  rw [List.range_succ, List.flatMap_append]; simp
end Go.Proofs.Ytnggimkkjdipmaa
namespace Go.Proofs.Ytnggimkkjdipmaa
open Go.RowKit
set_option linter.unusedVariables false
set_option linter.unusedSimpArgs false
set_option maxHeartbeats 16000000
set_option maxRecDepth 100000
def TellR (T : Tb) (w : World) (e : Ending) (w' : World) : Prop :=
  ∃ v' ps' bo, e = .returned v' ∧ wds ps' = onceF (tellAll T T.st.toNat) ∧ Wds (fun b => w.heap.size ≤ b) w' v' ps' bo ∧ Fr [] w w'
theorem Wds.imp {q q' : Nat → Prop} {w : World} {v : Value} {ps : List (Value × List Int)} {bo : Option Nat} (h : Wds q w v ps bo) (hq : ∀ b, q b → q' b) : Wds q' w v ps bo :=
  ⟨h.row, fun p hp => (h.each p hp).frq (Fr.refl [] w) (fun b _ h1 => ⟨by simp, hq b h1.1, h1.2⟩), fun z hz => hq z (h.qo z hz)⟩
/-- Words so far. -/
structure TlI (w : World) (wr : World) (v : Value) (ps : List (Value × List Int)) (bo : Option Nat) (L : List (List Int)) (m : Nat) : Prop where
  wd : Wds (fun b => w.heap.size ≤ b) wr v ps bo
  eq : wds ps = L
  len : ps.length ≤ m
  sh : ∀ p ∈ ps, p.2.length ≤ 60
theorem tells_any (T : Tb) (r : Value) (w : World) (hR : RIn w r T.rows) (hV : VT T) :
    Calls Try.prog 77 #[T.val r] w (TellR T w) := by
  rw [show T.val r = .agg #[.int .i64 T.st, .int .i64 T.ev, .int .i64 T.sr, r] from rfl]
  obtain ⟨w1, hw1⟩ : ∃ x, w.alloc (.cells #[.int .i64 T.st, .int .i64 T.ev, .int .i64 T.sr, r] TTab) = x := ⟨_, rfl⟩
  have P1 := Pt.newA w TTab #[.int .i64 T.st, .int .i64 T.ev, .int .i64 T.sr, r]
  rw [hw1] at P1
  have F1 : Fr [] w w1 := by rw [← hw1]; exact (Fr.refl [] w).alloc _
  have z1 := P1.lt
  obtain ⟨b1, hb1⟩ : ∃ x, w.heap.size = x := ⟨_, rfl⟩
  rw [hb1] at P1 z1
  have k1 := P1.cell
  dsimp only at k1
  obtain ⟨n, hn⟩ : ∃ n : Nat, T.st.toNat = n := ⟨_, rfl⟩
  have hst := hV.st
  have hnI : T.st = (n : Int) := by omega
  have hn30 : n ≤ 30 := by omega
  have DC : ∀ W (a b : Nat), Fr [] w W → a < n → b < n → Calls Try.prog 61 #[.agg #[.int .i64 T.st, .int .i64 T.ev, .int .i64 T.sr, r], .int .i64 a, .agg #[.int .i64 T.st, .int .i64 T.ev, .int .i64 T.sr, r], .int .i64 b] W (DiffO (differT T T a b) W) := fun W a b f ha hb =>
    differ_own T T (T.val r) (T.val r) a b W ⟨r, rfl, hR.fr f⟩ ⟨r, rfl, hR.fr f⟩ hV hV rfl (by omega) (by omega)
  have SH : ∀ (a b : Nat), a < n → b < n → ∀ l, differT T T a b = some l → l.length ≤ 60 := fun a b ha hb l hl => (differT_words hV hV rfl (by omega) (by omega) l hl).2
  have hn0 : (0 : Int) ≤ T.st := by omega
  replace hR := Lib.hid hR; replace hV := Lib.hid hV; replace DC := Lib.hid DC; replace SH := Lib.hid SH; replace hnI := Lib.hid hnI; replace hn := Lib.hid hn; replace hw1 := Lib.hid hw1; replace hst := Lib.hid hst
  go_enter Try.func77, Try.ntmps77
  go_wp2_with fail
  try rw [hb1]
  rw [hw1.out]
  go_loopg [3, 10] (n + 1) (fun k v3 v10 wr => ∃ (i : Nat) (ps : List (Value × List Int)) (bo : Option Nat), i ≤ n ∧ k + i = n + 1 ∧ v10 = .int .i64 i ∧ TlI w1 wr v3 ps bo (tellAll T i) (i * 30) ∧ Fr [] w1 wr)
  case atStart => exact ⟨0, [], none, by omega, by omega, by go_num, ⟨Wds.nil _ _ _, rfl, by simp, by simp⟩, Fr.refl _ _⟩
  case round =>
    obtain ⟨i, ps, bo, hi, hk, rfl, hI, hF⟩ := hrel
    obtain ⟨wi, rfl⟩ : ∃ x : World, x = wr := ⟨_, rfl⟩
    obtain ⟨g1, rfl⟩ : ∃ x : Nat, x = gk := ⟨_, rfl⟩
    have hst' := hnI.out
    by_cases hlt : (i : Int) < T.st
    · have hin : i < n := by omega
      have hI0 : TlI w1 wi u3 ps bo (tellAll T i ++ tellRow T i (i + 1)) (i * 30 + ((i + 1) - (i + 1))) := by
        rw [tellRow_start, List.append_nil]; exact ⟨hI.wd, hI.eq, by have := hI.len; omega, hI.sh⟩
      replace hI := Lib.hid hI; replace hF := Lib.hid hF; replace hst' := Lib.hid hst'; replace hI0 := Lib.hid hI0
      go_wp2_with fail
      go_loopg [3, 5] (n - i) (fun k v3 v5 wr => ∃ (j : Nat) (ps : List (Value × List Int)) (bo : Option Nat), i + 1 ≤ j ∧ j ≤ n ∧ k + j = n + 1 ∧ v5 = .int .i64 j ∧ TlI w1 wr v3 ps bo (tellAll T i ++ tellRow T i j) (i * 30 + (j - (i + 1))) ∧ Fr [] w1 wr)
      case atStart => exact ⟨i + 1, ps, bo, by omega, by omega, by omega, by go_num, hI0.out, hF.out⟩
      case round =>
        clear hI hI0 hF
        obtain ⟨j, ps, bo, hj0, hj, hk2, rfl, hI, hF⟩ := hrel
        obtain ⟨wj, rfl⟩ : ∃ x : World, x = wr := ⟨_, rfl⟩
        have hst2 := hnI.out
        have Pj := hF.pt P1 (by simp)
        have kj := Pj.cell
        clear k1
        by_cases hlt2 : (j : Int) < T.st
        · have hjn : j < n := by omega
          have D := DC.out wj i j (F1.trans hF) hin hjn
          have S2 := SH.out i j hin hjn
          have hstp := tellRow_step T i j hj0
          obtain ⟨X, hX⟩ : ∃ x, differT T T i j = x := ⟨_, rfl⟩
          rw [hX] at D S2 hstp
          cases X with
          | none =>
            have D2 : Calls Try.prog 61 #[.agg #[.int .i64 T.st, .int .i64 T.ev, .int .i64 T.sr, r], .int .i64 i, .agg #[.int .i64 T.st, .int .i64 T.ev, .int .i64 T.sr, r], .int .i64 j] wj fun e w' => (∃ o m c, e = .returned (.tuple #[.slice o m c, .bool false])) ∧ Fr [] wj w' := D.mono fun e w' ⟨v, h1, h2, _, h3⟩ => by
              obtain ⟨o, c, rfl, _⟩ := h2
              exact ⟨⟨_, _, _, h1⟩, h3⟩
            clear D
            replace hI := Lib.hid hI; replace hF := Lib.hid hF; replace hst2 := Lib.hid hst2; replace S2 := Lib.hid S2; replace hstp := Lib.hid hstp; replace hX := Lib.hid hX; replace D2 := Lib.hid D2
            go_wp2_with fail
            refine D2.out.mono ?_
            rintro e w2 ⟨⟨o, m, c, rfl⟩, f2⟩
            have GI : TlI w1 w2 u3 ps bo (tellAll T i ++ tellRow T i (j + 1)) (i * 30 + (j + 1 - (i + 1))) := ⟨hI.out.wd.fr f2 (by simp), by rw [hstp.out]; simpa using hI.out.eq, by have := hI.out.len; omega, hI.out.sh⟩
            replace f2 := Lib.hid f2; replace GI := Lib.hid GI
            go_wp2_with fail
            go_roundg (gk - 1)
            case measure => omega
            case rel => exact ⟨j + 1, ps, bo, by omega, by omega, by omega, by go_num, GI.out, hF.out.trans f2.out⟩
          | some word =>
            have D2 : Calls Try.prog 61 #[.agg #[.int .i64 T.st, .int .i64 T.ev, .int .i64 T.sr, r], .int .i64 i, .agg #[.int .i64 T.st, .int .i64 T.ev, .int .i64 T.sr, r], .int .i64 j] wj fun e w' => (∃ o m c, e = .returned (.tuple #[.slice o m c, .bool true]) ∧ NInB (fun b => wj.heap.size ≤ b) w' (.slice o m c) word) ∧ Fr [] wj w' := D.mono fun e w' ⟨v, h1, h2, h4, h3⟩ => by
              obtain ⟨o, c, rfl, _⟩ := h2
              exact ⟨⟨_, _, _, h1, h4⟩, h3⟩
            clear D
            have S3 := S2 word rfl
            clear S2
            replace hI := Lib.hid hI; replace hF := Lib.hid hF; replace hst2 := Lib.hid hst2; replace S3 := Lib.hid S3; replace hstp := Lib.hid hstp; replace hX := Lib.hid hX; replace D2 := Lib.hid D2
            go_wp2_with fail
            refine D2.out.mono ?_
            rintro e w2 ⟨⟨o, m, c, rfl, n2⟩, f2⟩
            have hln : (ps.map (·.1)).length = ps.length := List.length_map ..
            have hl0 := hI.out.len
            have hr2 : Row 1 w2 u3 (ps.map (·.1)).length (ps.map (·.1)) bo := by rw [hln]; exact hI.out.wd.row.fr f2 (by simp)
            obtain ⟨v', w9, bo', happ, hr9, hb9, f9⟩ := hr2.oneWs (by omega) (.slice o m c) rfl
            have hs1 := hF.out.size
            have hs2 := f2.size
            have GW : Wds (fun b => w1.heap.size ≤ b) w9 v' (ps ++ [(.slice o m c, word)]) bo' := hI.out.wd.add f2 n2 (fun z hz => by omega) hr9 hb9 f9
            have GI : TlI w1 w9 v' (ps ++ [(.slice o m c, word)]) bo' (tellAll T i ++ tellRow T i (j + 1)) (i * 30 + (j + 1 - (i + 1))) := ⟨GW, by
              rw [hstp.out]
              have := hI.out.eq
              unfold wds at *
              rw [List.map_append, this]; simp, by simp; omega, fun p hp => by
              rcases List.mem_append.mp hp with hp | hp
              · exact hI.out.sh p hp
              · simp at hp; subst hp; exact S3.out⟩
            have GF : Fr [] w1 w9 := (hF.out.trans f2).step f9 (fun z hz => .inr (hI.out.wd.qo z (by simpa using hz)))
            replace n2 := Lib.hid n2; replace f2 := Lib.hid f2; replace hr2 := Lib.hid hr2; replace hr9 := Lib.hid hr9; replace hb9 := Lib.hid hb9; replace f9 := Lib.hid f9; replace GW := Lib.hid GW; replace GI := Lib.hid GI; replace GF := Lib.hid GF; replace happ := Lib.hid happ; replace hs1 := Lib.hid hs1; replace hs2 := Lib.hid hs2; replace hl0 := Lib.hid hl0; replace hln := Lib.hid hln
            go_wp2_with (first | (at_builtin; refine wpList_append_run _ rfl _ _ _ rfl rfl rfl happ.out ?_))
            go_roundg (gk - 1)
            case measure => omega
            case rel => exact ⟨j + 1, _, bo', by omega, by omega, by omega, by go_num, GI.out, GF.out⟩
        · have hjn : j = n := by omega
          subst hjn
          have GI : TlI w1 wj u3 ps bo (tellAll T (i + 1)) ((i + 1) * 30) := ⟨hI.wd, by rw [tellAll_step, hn.out]; exact hI.eq, by have := hI.len; omega, hI.sh⟩
          replace hI := Lib.hid hI; replace hF := Lib.hid hF; replace hst2 := Lib.hid hst2; replace GI := Lib.hid GI
          go_wp2_with fail
          go_roundg (g1 - 1)
          case measure => omega
          case rel => exact ⟨i + 1, ps, bo, by omega, by omega, by go_num, GI.out, hF.out⟩
    · have hin : i = n := by omega
      subst hin
      have C := once_any _ wi u3 ps bo hI.wd (fun p hp => by have := hI.sh p hp; omega) (by have := hI.len; omega)
      have hqo := hI.wd.qo
      replace hI := Lib.hid hI; replace hF := Lib.hid hF; replace hst' := Lib.hid hst'; replace C := Lib.hid C; replace hqo := Lib.hid hqo
      go_wp2_with fail
      refine C.out.mono ?_
      rintro e w2 ⟨v2, ps2, rfl, he2, hW2, _, f2⟩
      have GO : TellR T w (.returned v2) w2 := ⟨v2, ps2, bo, rfl, by rw [he2, hI.out.eq, hn.out], hW2.imp (fun b h => Nat.le_trans F1.size h), F1.trans (hF.out.step f2 (fun z hz => .inr (hqo.out z (by simpa using hz))))⟩
      replace he2 := Lib.hid he2; replace hW2 := Lib.hid hW2; replace f2 := Lib.hid f2; replace GO := Lib.hid GO
      go_wp2_with fail
      go_ret
      exact GO.out
end Go.Proofs.Ytnggimkkjdipmaa
namespace Go.Proofs.Ytnggimkkjdipmaa
open Go.RowKit
set_option linter.unusedVariables false
set_option linter.unusedSimpArgs false
set_option maxHeartbeats 16000000
set_option maxRecDepth 100000
/-- What Tell answers. -/
def tellF (T : Tb) : List (List Int) × Int := if validT T then (onceF (tellAll (leastT T) (leastT T).st.toNat), 0) else ([], 1)
def TelR (L : List (List Int)) (s : Int) (w : World) (e : Ending) (w' : World) : Prop :=
  ∃ v' ps' bo, e = .returned (.tuple #[v', .int .i64 s]) ∧ wds ps' = L ∧ Wds (fun b => w.heap.size ≤ b) w' v' ps' bo ∧ Fr [] w w'
theorem Tell_any (T : Tb) (v : Value) (w : World) (hT : TIn w v T) :
    Calls Try.prog 44 #[v] w (TelR (tellF T).1 (tellF T).2 w) := by
  obtain ⟨r, rfl, hR⟩ := hT
  rw [show T.val r = .agg #[.int .i64 T.st, .int .i64 T.ev, .int .i64 T.sr, r] from rfl]
  have VA : ∀ W, Fr [] w W → Calls Try.prog 19 #[.agg #[.int .i64 T.st, .int .i64 T.ev, .int .i64 T.sr, r]] W fun e w' => e = .returned (.bool (validT T)) ∧ Fr [] W w' := fun W f => valid_any T _ W ⟨r, rfl, hR.fr f⟩
  obtain ⟨⟨X, z⟩, hX⟩ : ∃ x, tellF T = x := ⟨_, rfl⟩
  rw [hX]
  dsimp only
  obtain ⟨w1, hw1⟩ : ∃ x, w.alloc (.cells #[.int .i64 T.st, .int .i64 T.ev, .int .i64 T.sr, r] TTab) = x := ⟨_, rfl⟩
  have P1 := Pt.newA w TTab #[.int .i64 T.st, .int .i64 T.ev, .int .i64 T.sr, r]
  rw [hw1] at P1
  have F1 : Fr [] w w1 := by rw [← hw1]; exact (Fr.refl [] w).alloc _
  obtain ⟨b1, hb1⟩ : ∃ x, w.heap.size = x := ⟨_, rfl⟩
  rw [hb1] at P1
  have k1 := P1.cell
  replace hR := Lib.hid hR; replace VA := Lib.hid VA; replace hX := Lib.hid hX; replace P1 := Lib.hid P1; replace F1 := Lib.hid F1
  go_enter Try.func44, Try.ntmps44
  go_wp2_with fail
  refine (VA.out _ F1.out).mono ?_
  rintro e w4 ⟨rfl, f4⟩
  have F4 := F1.out.trans f4
  have p1 := f4.pt P1.out (by simp)
  clear k1 hb1 hw1
  cases hv : validT T
  · have hx := hX.out
    unfold tellF at hx
    rw [hv] at hx
    obtain ⟨rfl, rfl⟩ : [] = X ∧ 1 = z := by simpa using hx
    clear hx
    have GO : TelR [] 1 w (.returned (.tuple #[.slice none 0 0, .int .i64 1])) w4 := ⟨_, [], none, rfl, rfl, Wds.nil _ _ _, F4⟩
    replace hv := Lib.hid hv; replace F4 := Lib.hid F4; replace f4 := Lib.hid f4; replace p1 := Lib.hid p1; replace GO := Lib.hid GO
    go_wp2_with fail
    refine bodyPost_ret (v := .tuple #[.slice none 0 0, .int .i64 1]) (by simp [results, Try.results44, go_sem]) rfl GO.out
  · have hV := (validT_iff T).mp hv
    have hx := hX.out
    unfold tellF at hx
    rw [hv, if_pos rfl] at hx
    obtain ⟨hx1, rfl⟩ : onceF (tellAll (leastT T) (leastT T).st.toNat) = X ∧ 0 = z := by simpa using hx
    have LE := least_own T _ w4 ⟨r, rfl, hR.out.fr F4⟩ hV
    have TE : ∀ r' W, RIn W r' (leastT T).rows → Calls Try.prog 77 #[.agg #[.int .i64 (leastT T).st, .int .i64 (leastT T).ev, .int .i64 (leastT T).sr, r']] W (TellR (leastT T) W) := fun r' W h => tells_any (leastT T) r' W h (least_valid hV)
    have c1 := p1.cell
    clear hx
    replace hv := Lib.hid hv; replace hV := Lib.hid hV; replace hx1 := Lib.hid hx1; replace F4 := Lib.hid F4; replace f4 := Lib.hid f4; replace p1 := Lib.hid p1; replace LE := Lib.hid LE; replace TE := Lib.hid TE
    go_wp2_with fail
    refine LE.out.mono ?_
    rintro e w7 ⟨rv, rfl, ⟨hRB, us, bo, hRw, hul, hbo⟩, f7⟩
    have F7 := F4.out.trans f7
    have C3 := TE.out rv w7 hRB.rin
    clear c1
    replace hRB := Lib.hid hRB; replace hRw := Lib.hid hRw; replace f7 := Lib.hid f7; replace F7 := Lib.hid F7; replace C3 := Lib.hid C3
    clear hul hbo
    go_wp2_with fail
    refine C3.out.mono ?_
    rintro e w8 ⟨v8, ps8, bo8, rfl, h8, W8, f8⟩
    have GO : TelR X 0 w (.returned (.tuple #[v8, .int .i64 0])) w8 := ⟨v8, ps8, bo8, rfl, h8.trans hx1.out, W8.imp (fun b h => Nat.le_trans F7.out.size h), F7.out.trans f8⟩
    replace h8 := Lib.hid h8; replace W8 := Lib.hid W8; replace f8 := Lib.hid f8; replace GO := Lib.hid GO
    go_wp2_with fail
    refine bodyPost_ret (v := .tuple #[v8, .int .i64 0]) (by simp [results, Try.results44, go_sem]) rfl GO.out
end Go.Proofs.Ytnggimkkjdipmaa
