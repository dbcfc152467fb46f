import Derived.Test.YtnggimkkjdipmaaTD3
namespace Go.Proofs.Ytnggimkkjdipmaa
open Go.RowKit
set_option linter.unusedVariables false
set_option linter.unusedSimpArgs false
set_option maxHeartbeats 16000000
set_option maxRecDepth 100000
theorem alike_any (A B : Tb) (va vb : Value) (w : World) (hA : TIn w va A) (hB : TIn w vb B) :
    Calls Try.prog 25 #[va, vb] w fun e w' => e = .returned (.tuple #[.bool (alikeF A B).1, .int .i64 (alikeF A B).2]) ∧ Fr [] w w' := by
  obtain ⟨ra, rfl, hRA⟩ := hA
  obtain ⟨rb, rfl, hRB⟩ := hB
  rw [show A.val ra = .agg #[.int .i64 A.st, .int .i64 A.ev, .int .i64 A.sr, ra] from rfl, show B.val rb = .agg #[.int .i64 B.st, .int .i64 B.ev, .int .i64 B.sr, rb] from rfl]
  have VA : ∀ W, Fr [] w W → Calls Try.prog 19 #[.agg #[.int .i64 A.st, .int .i64 A.ev, .int .i64 A.sr, ra]] W fun e w' => e = .returned (.bool (validT A)) ∧ Fr [] W w' := fun W f => valid_any A _ W ⟨ra, rfl, hRA.fr f⟩
  have VB : ∀ W, Fr [] w W → Calls Try.prog 19 #[.agg #[.int .i64 B.st, .int .i64 B.ev, .int .i64 B.sr, rb]] W fun e w' => e = .returned (.bool (validT B)) ∧ Fr [] W w' := fun W f => valid_any B _ W ⟨rb, rfl, hRB.fr f⟩
  obtain ⟨w1, hw1⟩ : ∃ x, w.alloc (.cells #[.int .i64 A.st, .int .i64 A.ev, .int .i64 A.sr, ra] TTab) = x := ⟨_, rfl⟩
  have P1 := Pt.newA w TTab #[.int .i64 A.st, .int .i64 A.ev, .int .i64 A.sr, ra]
  rw [hw1] at P1
  have F1 : Fr [] w w1 := by rw [← hw1]; exact (Fr.refl [] w).alloc _
  obtain ⟨b1, hb1⟩ : ∃ x, w.heap.size = x := ⟨_, rfl⟩
  rw [hb1] at P1
  obtain ⟨w2, hw2⟩ : ∃ x, w1.alloc (.cells #[.int .i64 B.st, .int .i64 B.ev, .int .i64 B.sr, rb] TTab) = x := ⟨_, rfl⟩
  have P2 := Pt.newA w1 TTab #[.int .i64 B.st, .int .i64 B.ev, .int .i64 B.sr, rb]
  rw [hw2] at P2
  have F2 : Fr [] w1 w2 := by rw [← hw2]; exact (Fr.refl [] w1).alloc _
  obtain ⟨b2, hb2⟩ : ∃ x, w1.heap.size = x := ⟨_, rfl⟩
  rw [hb2] at P2
  have Q1 := F2.pt P1 (by simp)
  have FA := F1.trans F2
  have k1 := Q1.cell
  have k2 := P2.cell
  replace P1 := Lib.hid P1; replace P2 := Lib.hid P2; replace Q1 := Lib.hid Q1; replace F1 := Lib.hid F1; replace F2 := Lib.hid F2; replace FA := Lib.hid FA; replace VA := Lib.hid VA; replace VB := Lib.hid VB; replace hRA := Lib.hid hRA; replace hRB := Lib.hid hRB
  obtain ⟨X, hX⟩ : ∃ x, alikeF A B = x := ⟨_, rfl⟩
  rw [hX]
  have hX' := Lib.hid hX
  clear hX
  go_enter Try.func25, Try.ntmps25
  go_wp2_with fail
  refine (VA.out _ FA.out).mono ?_
  rintro e w3 ⟨rfl, f3⟩
  have F3 := FA.out.trans f3
  have Q31 := f3.pt Q1.out (by simp)
  have Q32 := f3.pt P2.out (by simp)
  have k31 := Q31.cell
  have k32 := Q32.cell
  clear k1 k2 hw1 hw2 hb1 hb2
  replace F3 := Lib.hid F3; replace f3 := Lib.hid f3; replace Q31 := Lib.hid Q31; replace Q32 := Lib.hid Q32
  cases hva : validT A
  · have hbad : ValidTwo A B = false := by simp [ValidTwo, hva]
    replace hva := Lib.hid hva
    have hx : X = (false, 1) := by rw [← hX'.out]; unfold alikeF; rw [hbad]; rfl
    subst hx
    replace hbad := Lib.hid hbad
    go_wp2_with fail
    go_ret2
    exact ⟨rfl, F3.out⟩
  have hVA := (validT_iff A).mp hva
  replace hva := Lib.hid hva
  go_wp2_with fail
  refine (VB.out _ F3.out).mono ?_
  rintro e w4 ⟨rfl, f4⟩
  have F4 := F3.out.trans f4
  have Q41 := f4.pt Q31.out (by simp)
  have Q42 := f4.pt Q32.out (by simp)
  have k41 := Q41.cell
  have k42 := Q42.cell
  clear k31 k32
  replace F4 := Lib.hid F4; replace f4 := Lib.hid f4; replace Q41 := Lib.hid Q41; replace Q42 := Lib.hid Q42; replace hVA := Lib.hid hVA
  cases hvb : validT B
  · have hbad : ValidTwo A B = false := by simp [ValidTwo, hvb]
    replace hvb := Lib.hid hvb
    have hx : X = (false, 1) := by rw [← hX'.out]; unfold alikeF; rw [hbad]; rfl
    subst hx
    replace hbad := Lib.hid hbad
    go_wp2_with fail
    go_ret2
    exact ⟨rfl, F4.out⟩
  have hVB := (validT_iff B).mp hvb
  replace hvb := Lib.hid hvb; replace hVB := Lib.hid hVB
  cases hee : A.ev == B.ev
  · have hee2 : (A.ev != B.ev) = true := by simp [bne, hee]
    have hbad : ValidTwo A B = false := by simp [ValidTwo]; intro _ _; simpa using hee
    have hx : X = (false, 1) := by rw [← hX'.out]; unfold alikeF; rw [hbad]; rfl
    subst hx
    replace hbad := Lib.hid hbad
    go_wp2_with fail
    go_ret2
    exact ⟨rfl, F4.out⟩
  have hee2 : (A.ev != B.ev) = false := by simp [bne, hee]
  have hev : A.ev = B.ev := by simpa using hee
  have hgood : ValidTwo A B = true := by simp [ValidTwo, hva.out, hvb.out, hev]
  replace hev := Lib.hid hev
  have DF := differ_any A B _ _ A.sr B.sr w4 ⟨ra, rfl, hRA.out.fr F4.out⟩ ⟨rb, rfl, hRB.out.fr F4.out⟩ hVA.out hVB.out hev.out hVA.out.sr hVB.out.sr
  have hx : X = ((differT A B A.sr B.sr).isNone, 0) := by rw [← hX'.out]; unfold alikeF; rw [hgood]; rfl
  subst hx
  replace hgood := Lib.hid hgood; replace DF := Lib.hid DF
  go_wp2_with fail
  refine DF.out.mono ?_
  rintro e w5 ⟨v5, rfl, n5, f5⟩
  have F5 := Lib.hid (F4.out.trans f5)
  obtain ⟨o5, c5, rfl⟩ : ∃ o c, v5 = .slice o ((differT A B A.sr B.sr).getD []).length c := by obtain ⟨o, c, e, _⟩ := n5; exact ⟨o, c, e⟩
  replace n5 := Lib.hid n5; replace f5 := Lib.hid f5
  obtain ⟨D, hD⟩ : ∃ x, differT A B A.sr B.sr = x := ⟨_, rfl⟩
  rw [hD]
  cases D
  all_goals
    replace hD := Lib.hid hD
    go_wp2_with fail
    go_ret2
    exact ⟨by rw [hD.out]; rfl, F5.out⟩
/-- What Differ hands back. -/
def DfR (r : List Int × Int) (w : World) (e : Ending) (w' : World) : Prop := ∃ v, e = .returned (.tuple #[v, .int .i64 r.2]) ∧ NInC w' v r.1 ∧ Fr [] w w'
theorem has_iff (T : Tb) (s : Int) : T.has s = true ↔ 0 ≤ s ∧ s < T.st := by simp [Tb.has]
theorem Differ_any (A B : Tb) (va vb : Value) (a b : Int) (w : World) (hA : TIn w va A) (hB : TIn w vb B) :
    Calls Try.prog 27 #[va, .int .i64 a, vb, .int .i64 b] w (DfR (differF A a B b) w) := by
  obtain ⟨ra, rfl, hRA⟩ := hA
  obtain ⟨rb, rfl, hRB⟩ := hB
  rw [show A.val ra = .agg #[.int .i64 A.st, .int .i64 A.ev, .int .i64 A.sr, ra] from rfl, show B.val rb = .agg #[.int .i64 B.st, .int .i64 B.ev, .int .i64 B.sr, rb] from rfl]
  have VA : ∀ W, Fr [] w W → Calls Try.prog 19 #[.agg #[.int .i64 A.st, .int .i64 A.ev, .int .i64 A.sr, ra]] W fun e w' => e = .returned (.bool (validT A)) ∧ Fr [] W w' := fun W f => valid_any A _ W ⟨ra, rfl, hRA.fr f⟩
  have VB : ∀ W, Fr [] w W → Calls Try.prog 19 #[.agg #[.int .i64 B.st, .int .i64 B.ev, .int .i64 B.sr, rb]] W fun e w' => e = .returned (.bool (validT B)) ∧ Fr [] W w' := fun W f => valid_any B _ W ⟨rb, rfl, hRB.fr f⟩
  obtain ⟨w1, hw1⟩ : ∃ x, w.alloc (.cells #[.int .i64 A.st, .int .i64 A.ev, .int .i64 A.sr, ra] TTab) = x := ⟨_, rfl⟩
  have P1 := Pt.newA w TTab #[.int .i64 A.st, .int .i64 A.ev, .int .i64 A.sr, ra]
  rw [hw1] at P1
  have F1 : Fr [] w w1 := by rw [← hw1]; exact (Fr.refl [] w).alloc _
  obtain ⟨b1, hb1⟩ : ∃ x, w.heap.size = x := ⟨_, rfl⟩
  rw [hb1] at P1
  obtain ⟨w2, hw2⟩ : ∃ x, w1.alloc (.cells #[.int .i64 B.st, .int .i64 B.ev, .int .i64 B.sr, rb] TTab) = x := ⟨_, rfl⟩
  have P2 := Pt.newA w1 TTab #[.int .i64 B.st, .int .i64 B.ev, .int .i64 B.sr, rb]
  rw [hw2] at P2
  have F2 : Fr [] w1 w2 := by rw [← hw2]; exact (Fr.refl [] w1).alloc _
  obtain ⟨b2, hb2⟩ : ∃ x, w1.heap.size = x := ⟨_, rfl⟩
  rw [hb2] at P2
  have Q1 := F2.pt P1 (by simp)
  have FA := F1.trans F2
  have k1 := Q1.cell
  have k2 := P2.cell
  replace P1 := Lib.hid P1; replace P2 := Lib.hid P2; replace Q1 := Lib.hid Q1; replace F1 := Lib.hid F1; replace F2 := Lib.hid F2; replace FA := Lib.hid FA; replace VA := Lib.hid VA; replace VB := Lib.hid VB; replace hRA := Lib.hid hRA; replace hRB := Lib.hid hRB
  have HA : ∀ W, Fr [] w W → Calls Try.prog 51 #[.agg #[.int .i64 A.st, .int .i64 A.ev, .int .i64 A.sr, ra], .int .i64 a] W fun e w' => e = .returned (.bool (A.has a)) ∧ Fr [] W w' := fun W f => has_any A _ a W ⟨ra, rfl, hRA.out.fr f⟩
  have HB : ∀ W, Fr [] w W → Calls Try.prog 51 #[.agg #[.int .i64 B.st, .int .i64 B.ev, .int .i64 B.sr, rb], .int .i64 b] W fun e w' => e = .returned (.bool (B.has b)) ∧ Fr [] W w' := fun W f => has_any B _ b W ⟨rb, rfl, hRB.out.fr f⟩
  replace HA := Lib.hid HA; replace HB := Lib.hid HB
  obtain ⟨X, hX⟩ : ∃ x, differF A a B b = x := ⟨_, rfl⟩
  rw [hX]
  have hX' := Lib.hid hX
  clear hX
  go_enter Try.func27, Try.ntmps27
  go_wp2_with fail
  refine (VA.out _ FA.out).mono ?_
  rintro e w3 ⟨rfl, f3⟩
  have F3 := FA.out.trans f3
  have Q31 := f3.pt Q1.out (by simp)
  have Q32 := f3.pt P2.out (by simp)
  have k31 := Q31.cell
  have k32 := Q32.cell
  clear k1 k2 hw1 hw2 hb1 hb2
  replace F3 := Lib.hid F3; replace f3 := Lib.hid f3; replace Q31 := Lib.hid Q31; replace Q32 := Lib.hid Q32
  cases hva : validT A
  · have hbad : ValidTwo A B = false := by simp [ValidTwo, hva]
    replace hva := Lib.hid hva
    have hx : X = ([], 1) := by rw [← hX'.out]; unfold differF; rw [hbad]; rfl
    subst hx
    replace hbad := Lib.hid hbad
    have ND : DfR ([], 1) w (.returned (.tuple #[.slice none 0 0, .int .i64 1])) w3 := ⟨_, rfl, ninc_nil _, F3.out⟩
    replace ND := Lib.hid ND
    go_wp2_with fail
    go_ret2
    exact ND.out
  have hVA := (validT_iff A).mp hva
  replace hva := Lib.hid hva
  go_wp2_with fail
  refine (VB.out _ F3.out).mono ?_
  rintro e w4 ⟨rfl, f4⟩
  have F4 := F3.out.trans f4
  have Q41 := f4.pt Q31.out (by simp)
  have Q42 := f4.pt Q32.out (by simp)
  have k41 := Q41.cell
  have k42 := Q42.cell
  clear k31 k32
  replace F4 := Lib.hid F4; replace f4 := Lib.hid f4; replace Q41 := Lib.hid Q41; replace Q42 := Lib.hid Q42; replace hVA := Lib.hid hVA
  cases hvb : validT B
  · have hbad : ValidTwo A B = false := by simp [ValidTwo, hvb]
    replace hvb := Lib.hid hvb
    have hx : X = ([], 1) := by rw [← hX'.out]; unfold differF; rw [hbad]; rfl
    subst hx
    replace hbad := Lib.hid hbad
    have ND : DfR ([], 1) w (.returned (.tuple #[.slice none 0 0, .int .i64 1])) w4 := ⟨_, rfl, ninc_nil _, F4.out⟩
    replace ND := Lib.hid ND
    go_wp2_with fail
    go_ret2
    exact ND.out
  have hVB := (validT_iff B).mp hvb
  replace hvb := Lib.hid hvb; replace hVB := Lib.hid hVB
  cases hee : A.ev == B.ev
  · have hee2 : (A.ev != B.ev) = true := by simp [bne, hee]
    have hbad : ValidTwo A B = false := by simp [ValidTwo]; intro _ _; simpa using hee
    have hx : X = ([], 1) := by rw [← hX'.out]; unfold differF; rw [hbad]; rfl
    subst hx
    replace hbad := Lib.hid hbad
    have ND : DfR ([], 1) w (.returned (.tuple #[.slice none 0 0, .int .i64 1])) w4 := ⟨_, rfl, ninc_nil _, F4.out⟩
    replace ND := Lib.hid ND
    go_wp2_with fail
    go_ret2
    exact ND.out
  have hee2 : (A.ev != B.ev) = false := by simp [bne, hee]
  have hev : A.ev = B.ev := by simpa using hee
  have hgood : ValidTwo A B = true := by simp [ValidTwo, hva.out, hvb.out, hev]
  replace hev := Lib.hid hev
  replace hgood := Lib.hid hgood
  go_wp2_with fail
  refine (HA.out _ F4.out).mono ?_
  rintro e w5 ⟨rfl, f5⟩
  have F5 := F4.out.trans f5
  have Q51 := f5.pt Q41.out (by simp)
  have Q52 := f5.pt Q42.out (by simp)
  have k51 := Q51.cell
  have k52 := Q52.cell
  clear k41 k42
  replace F5 := Lib.hid F5; replace f5 := Lib.hid f5; replace Q51 := Lib.hid Q51; replace Q52 := Lib.hid Q52
  cases hha : A.has a
  · have hbad := hha
    replace hha := Lib.hid hha
    have hx : X = ([], 1) := by rw [← hX'.out]; unfold differF; rw [hgood.out, hbad]; rfl
    subst hx
    replace hbad := Lib.hid hbad
    have ND : DfR ([], 1) w (.returned (.tuple #[.slice none 0 0, .int .i64 1])) w5 := ⟨_, rfl, ninc_nil _, F5.out⟩
    replace ND := Lib.hid ND
    go_wp2_with fail
    go_ret2
    exact ND.out
  have hsa := (has_iff A a).mp hha
  replace hha := Lib.hid hha; replace hsa := Lib.hid hsa
  go_wp2_with fail
  refine (HB.out _ F5.out).mono ?_
  rintro e w6 ⟨rfl, f6⟩
  have F6 := F5.out.trans f6
  have Q61 := f6.pt Q51.out (by simp)
  have Q62 := f6.pt Q52.out (by simp)
  have k61 := Q61.cell
  have k62 := Q62.cell
  clear k51 k52
  replace F6 := Lib.hid F6; replace f6 := Lib.hid f6; replace Q61 := Lib.hid Q61; replace Q62 := Lib.hid Q62
  cases hhb : B.has b
  · have hbad := hhb
    replace hhb := Lib.hid hhb
    have hx : X = ([], 1) := by rw [← hX'.out]; unfold differF; rw [hgood.out, hha.out, hbad]; rfl
    subst hx
    replace hbad := Lib.hid hbad
    have ND : DfR ([], 1) w (.returned (.tuple #[.slice none 0 0, .int .i64 1])) w6 := ⟨_, rfl, ninc_nil _, F6.out⟩
    replace ND := Lib.hid ND
    go_wp2_with fail
    go_ret2
    exact ND.out
  have hsb := (has_iff B b).mp hhb
  replace hhb := Lib.hid hhb; replace hsb := Lib.hid hsb
  have DF := differ_any A B _ _ a b w6 ⟨ra, rfl, hRA.out.fr F6.out⟩ ⟨rb, rfl, hRB.out.fr F6.out⟩ hVA.out hVB.out hev.out hsa.out hsb.out
  have hx : X = (match differT A B a b with | some w => (w, 0) | none => ([], 3)) := by rw [← hX'.out]; unfold differF; rw [hgood.out, hha.out, hhb.out]; rfl
  replace DF := Lib.hid DF; replace hx := Lib.hid hx
  go_wp2_with fail
  refine DF.out.mono ?_
  rintro e w7 ⟨v7, rfl, n7, f7⟩
  have F7 := Lib.hid (F6.out.trans f7)
  obtain ⟨D, hD⟩ : ∃ x, differT A B a b = x := ⟨_, rfl⟩
  replace hx := hx.out
  rw [hD] at hx n7
  rw [hD]
  cases D
  · subst hx
    have ND : DfR ([], 3) w (.returned (.tuple #[.slice none 0 0, .int .i64 3])) w7 := ⟨_, rfl, ninc_nil _, F7.out⟩
    replace ND := Lib.hid ND; replace hD := Lib.hid hD; replace f7 := Lib.hid f7; replace n7 := Lib.hid n7
    go_wp2_with fail
    go_ret2
    exact ND.out
  · rename_i wd
    subst hx
    have ND : DfR (wd, 0) w (.returned (.tuple #[v7, .int .i64 0])) w7 := ⟨_, rfl, n7, F7.out⟩
    replace ND := Lib.hid ND; replace hD := Lib.hid hD; replace f7 := Lib.hid f7; replace n7 := Lib.hid n7
    go_wp2_with fail
    go_ret2
    exact ND.out
end Go.Proofs.Ytnggimkkjdipmaa
namespace Go.Proofs.Ytnggimkkjdipmaa
open Go.RowKit
set_option linter.unusedVariables false
set_option linter.unusedSimpArgs false
set_option maxHeartbeats 16000000
set_option maxRecDepth 100000
/-! ### The reference's Copy, and its differ in the midst -/
theorem rcopy_any (v : Value) (ds : List Int) (w : World) (hD : NIn w v ds) (hn : ds.length < 1000000) :
    Calls Try.prog 84 #[v] w fun e w' => ∃ v' bo, e = .returned v' ∧ Row 1 w' v' ds.length (ints ds) bo ∧ (∀ z, bo = some z → w.heap.size ≤ z) ∧ Fr [] w w' := by
  have hD' := hD
  obtain ⟨o, cap, rfl, hl⟩ := hD'
  cases o with
  | none =>
    have h0 : ds = [] := by
      cases ds with
      | nil => rfl
      | cons a r => obtain ⟨_, _, e, _⟩ := hl 0 (by simp); cases e
    subst h0
    have f1 : Fr [] w (w.alloc (.cells #[] 3)) := (Fr.refl [] w).alloc _
    have hrun := run_append_nothing (P := Try.prog) (w := w.alloc (.cells #[] 3)) 25 25 25 3 iInt uInts infoInt (some ⟨w.heap.size, 0, none⟩) 0 0 (Nat.le_refl _) _ (Src.ofNil _ uInts cap)
    replace hrun := Lib.hid hrun; replace f1 := Lib.hid f1
    clear hD hl
    go_enter Try.func84, Try.ntmps84
    go_wp2_with (first | (at_builtin; refine wpList_append_run _ rfl _ _ _ rfl rfl rfl hrun.out ?_))
    go_ret
    exact ⟨_, none, rfl, Row.nil 1 _ _, by simp, f1.out⟩
  | some a0 =>
    obtain ⟨v', w', bo, hrun, hr, hb, hf⟩ := copy_run a0 cap ds w hD hn
    replace hrun := Lib.hid hrun
    clear hD hl
    go_enter Try.func84, Try.ntmps84
    go_wp2_with (first | (at_builtin; refine wpList_append_run _ rfl _ _ _ rfl rfl rfl hrun.out ?_))
    go_ret
    exact ⟨v', bo, rfl, hr, hb, hf⟩
structure RfI (A B : Tb) (w : World) (b1 b2 : Nat) (ra rb : Value) (L : List Vis) (M : List ((Int × Int) × Value)) (wr : World) (v : Value) (bo : Option Nat) : Prop where
  p1 : Pt wr b1 RTab [.int .i64 A.st, .int .i64 A.ev, .int .i64 A.sr, ra]
  p2 : Pt wr b2 RTab [.int .i64 B.st, .int .i64 B.ev, .int .i64 B.sr, rb]
  q : Row 3 wr v M.length (tcells M) bo
  keys : M.map (·.1) = L.map (·.1)
  val : ∀ k (h1 : k < M.length) (h2 : k < L.length), NInB (fun b => b ∉ bo.toList) wr M[k].2 L[k].2
  out : ∀ z, bo = some z → b2 < z
  g0 : w.heap.size ≤ b1
  g1 : b1 < b2
  fr : Fr [] w wr
variable {A B : Tb} {w : World} {b1 b2 : Nat} {ra rb : Value} {i : Nat} {L : List Vis} {M : List ((Int × Int) × Value)} {wr : World} {v : Value} {bo : Option Nat}
theorem RfI.mlen (h : RfI A B w b1 b2 ra rb L M wr v bo) : M.length = L.length := by
  have := congrArg List.length h.keys
  simpa using this
theorem RfI.frz (h : RfI A B w b1 b2 ra rb L M wr v bo) {W : World} (f : Fr [] wr W) : RfI A B w b1 b2 ra rb L M W v bo :=
  ⟨f.pt h.p1 (by simp), f.pt h.p2 (by simp), h.q.fr f (by simp), h.keys, fun k h1 h2 => (h.val k h1 h2).frq f (fun b _ hq => ⟨by simp, hq⟩), h.out, h.g0, h.g1, h.fr.trans f⟩
theorem RfI.add (h : RfI A B w b1 b2 ra rb L M wr v bo) (hl : L.length ≤ 1000) (x : Int × Int) (word : List Int) {W : World} (f : Fr [] wr W) {v5 : Value} (r5 : NInB (fun b => wr.heap.size ≤ b) W v5 word) :
    ∃ v' w9 bo', (Builtin.append_ #[99, 99] 99 #[v, .slice (some ⟨W.heap.size, 0, none⟩) 1 1]).run Try.prog (W.alloc (.cells #[.int .i64 x.1, .int .i64 x.2, v5] TPr)) = .ok v' w9 ∧
      RfI A B w b1 b2 ra rb (L ++ [(x, word)]) (M ++ [(x, v5)]) w9 v' bo' ∧ ∀ z T cs, Pt wr z T cs → z ∉ bo.toList → Pt w9 z T cs ∧ z ∉ bo'.toList := by
  have hml := h.mlen
  have l1 := h.p1.lt
  have l2 := h.p2.lt
  have g0 := h.g0
  have g1 := h.g1
  have s1 := f.size
  have lb : ∀ z, bo = some z → z < wr.heap.size := fun z hz => by have h3 := h.q; rw [hz] at h3; exact h3.lt
  have h1c : v5.oneCell' = true := by obtain ⟨o, cap, rfl, _⟩ := r5; rfl
  obtain ⟨v', w9, bo', hrun, hr, hb, hf⟩ := (h.q.fr f (by simp)).addT (by omega) (x, v5) h1c
  have hnb : ∀ b, b ≤ b2 → b ∉ bo.toList := fun b hb1 hm => by have := h.out b (by simpa using hm); omega
  have key : ∀ b, b < W.heap.size → (b ∉ bo.toList) → b ∉ bo'.toList := fun b hb1 hb2 hm => by
    rcases hb with e | ⟨z, e, hz⟩
    · rw [e] at hm; exact hb2 hm
    · rw [e] at hm; simp at hm; omega
  refine ⟨v', w9, bo', hrun, ⟨?_, ?_, hr, ?_, fun k h1 h2 => ?_, fun z hz => ?_, g0, g1, ?_⟩, fun z T cs hp h2 => ⟨hf.pt (f.pt hp (by simp)) h2, key z (by have := hp.lt; omega) h2⟩⟩
  · exact hf.pt (f.pt h.p1 (by simp)) (hnb _ (by omega))
  · exact hf.pt (f.pt h.p2 (by simp)) (hnb _ (by omega))
  · rw [List.map_append, List.map_append, h.keys]; rfl
  · by_cases hk : k < M.length
    · rw [List.getElem_append_left hk, List.getElem_append_left (by omega : k < L.length)]
      have hv := h.val k hk (by omega)
      have hv9 := hv.frq f (q' := fun b => b ∉ bo.toList ∧ b < W.heap.size) (fun b hb0 hq => ⟨by simp, hq, by omega⟩)
      exact hv9.frq hf (fun b hb1 hq => ⟨hq.1, key b hq.2 hq.1⟩)
    · obtain rfl : k = M.length := by simp at h1; omega
      have e1 : (M ++ [(x, v5)])[M.length] = (x, v5) := by simp
      have e2 : (L ++ [(x, word)])[M.length]'(by simp; omega) = (x, word) := by
        rw [List.getElem_append_right (by omega)]; simp [hml]
      rw [e1, e2]
      have hv9 := r5.frq (Fr.refl [] W) (q' := fun b => b ∉ bo.toList ∧ b < W.heap.size) (fun b hb0 hq => ⟨by simp, fun hm => by have := lb b (by simpa using hm); omega, by omega⟩)
      exact hv9.frq hf (fun b hb1 hq => ⟨hq.1, key b hq.2 hq.1⟩)
  · rcases hb with hb | ⟨z', hb, hz'⟩
    · rw [hb] at hz; exact h.out z hz
    · rw [hb] at hz; cases hz; omega
  · refine (h.fr.trans f).step hf (fun b hb1 => .inr ?_)
    have := h.out b (by simpa using hb1); omega
theorem RfI.put2 (h : RfI A B w b1 b2 ra rb L M wr v bo) (hl : L.length ≤ 1000) (x : Int × Int) (word : List Int) (hn : word.length < 100000) (e : Int) (W : World) (v2 : Value) (b2' : Option Nat) (bs : Nat) (f : Fr [] wr W) (hr : Row 1 W v2 word.length (ints word) b2') (hb : ∀ z, b2' = some z → wr.heap.size ≤ z) (hp : Pt W bs 3 [.int .i64 e]) :
    ∃ o5 n5 c5 w5 v' w9 bo', (Builtin.append_ #[25, 25] 25 #[v2, .slice (some ⟨bs, 0, none⟩) 1 1]).run Try.prog W = .ok (.slice o5 n5 c5) w5 ∧ Fr [] wr w5 ∧ n5 = (word ++ [e]).length ∧
      (Builtin.append_ #[99, 99] 99 #[v, .slice (some ⟨w5.heap.size, 0, none⟩) 1 1]).run Try.prog (w5.alloc (.cells #[.int .i64 x.1, .int .i64 x.2, .slice o5 n5 c5] TPr)) = .ok v' w9 ∧
      RfI A B w b1 b2 ra rb (L ++ [(x, word ++ [e])]) (M ++ [(x, .slice o5 n5 c5)]) w9 v' bo' ∧ ∀ z T cs, Pt wr z T cs → z ∉ bo.toList → Pt w9 z T cs ∧ z ∉ bo'.toList := by
  obtain ⟨v5, w5, b5, happ, hr5, hb5, f5⟩ := hr.addPt (by omega) hp
  have F5 : Fr [] wr w5 := f.step f5 (fun z hz => .inr (hb z (by simpa using hz)))
  have n5 : NInB (fun b => wr.heap.size ≤ b) w5 v5 (word ++ [e]) := hr5.ninb (fun z hz => by
    rcases hb5 with e' | ⟨z', e', h'⟩
    · rw [e'] at hz; exact hb z hz
    · rw [e'] at hz; cases hz; have := f.size; omega)
  obtain ⟨v', w9, bo', happ2, hI, hK⟩ := h.add hl x (word ++ [e]) F5 n5
  obtain ⟨o, c, rfl, _⟩ := n5
  exact ⟨o, _, c, w5, v', w9, bo', happ, F5, rfl, happ2, hI, hK⟩
theorem RfI.at (h : RfI A B w b1 b2 ra rb L M wr v bo) (hi : i < L.length) : ∃ b off cap vw, bo = some b ∧ v = .slice (some ⟨b, off, none⟩) L.length cap ∧ b < wr.heap.size ∧ wr.cell? ⟨b, off + i * 3, none⟩ = some (.int .i64 L[i].1.1) ∧ wr.cell? ⟨b, off + i * 3 + 1, none⟩ = some (.int .i64 L[i].1.2) ∧ wr.cell? ⟨b, off + i * 3 + 2, none⟩ = some vw ∧ NInB (fun b => b ∉ bo.toList) wr vw L[i].2 ∧ M[i]? = some (L[i].1, vw) := by
  have hml := h.mlen
  have hiM : i < M.length := by omega
  obtain ⟨b, off, cap, hbo, e, hb, c1, c2, c3⟩ := h.q.atT i hiM
  have hk : M[i].1 = L[i].1 := by
    have := congrArg (·[i]?) h.keys
    simp [hiM, hi] at this
    exact this
  rw [hk] at c1 c2
  rw [hml] at e
  exact ⟨b, off, cap, _, hbo, e, hb, c1, c2, c3, h.val i hiM hi, by rw [List.getElem?_eq_getElem hiM, ← hk]⟩
end Go.Proofs.Ytnggimkkjdipmaa
