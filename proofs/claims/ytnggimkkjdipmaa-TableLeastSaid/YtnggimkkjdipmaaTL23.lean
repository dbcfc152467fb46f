import Derived.Test.YtnggimkkjdipmaaTSF
import Derived.Test.YtnggimkkjdipmaaTL8
import Derived.Test.YtnggimkkjdipmaaTL20
import Derived.Test.YtnggimkkjdipmaaTL21
import Derived.Test.YtnggimkkjdipmaaTOpen
namespace Go.Proofs.Ytnggimkkjdipmaa
open Go.RowKit
set_option linter.unusedVariables false
set_option linter.unusedSimpArgs false
set_option maxHeartbeats 16000000
set_option maxRecDepth 100000
/-! ### The law TableLeast -/
def lsF (T : Tb) : Tb × Int := if validT T then (leastT T, 0) else (⟨0, 0, 0, []⟩, 1)
theorem lsF_fits (T : Tb) : Fits (lsF T).1 := by
  unfold lsF
  cases h : validT T
  · exact ⟨by simp, by simp⟩
  · have hV := least_valid ((validT_iff T).mp h)
    have h1 := hV.rows; have h2 := hV.st; have h3 := hV.ev
    exact ⟨by simp; omega, fun l hl => by have := hV.row l hl; omega⟩
def LsR (X : Tb) (s : Int) (w : World) (e : Ending) (w' : World) : Prop := ∃ o n c, e = .returned (.tuple #[.agg #[.int .i64 X.st, .int .i64 X.ev, .int .i64 X.sr, .slice o n c], .int .i64 s]) ∧ RIn w' (.slice o n c) X.rows ∧ Fr [] w w'
theorem Least_ls (T : Tb) (v : Value) (w : World) (hT : TIn w v T) : Calls Try.prog 31 #[v] w (LsR (lsF T).1 (lsF T).2 w) := by
  refine (Least_any T v w hT).mono fun e w' ⟨v', s, h1, h2, h3⟩ => ?_
  unfold lsF
  rcases h2 with ⟨h4, rfl, r, rfl, hr⟩ | ⟨h4, rfl, rfl⟩
  · rw [h4, if_pos rfl]
    obtain ⟨o, c, rfl, hl⟩ := hr
    exact ⟨_, _, _, h1, ⟨_, _, rfl, hl⟩, h3⟩
  · rw [h4]
    exact ⟨none, 0, 0, h1, RIn.nil0 w', h3⟩
theorem rLeast_ls (T : Tb) (v : Value) (w : World) (hT : TIn w v T) : Calls Try.prog 40 #[v] w (LsR (lsF T).1 (lsF T).2 w) := by
  refine (rLeast_any T v w hT).mono fun e w' ⟨rv, X, s, h1, hr, h2, h3⟩ => ?_
  unfold lsF
  obtain ⟨o, c, rfl, hl⟩ := hr
  rcases h2 with ⟨h4, rfl, rfl⟩ | ⟨h4, rfl, rfl⟩
  · rw [h4, if_pos rfl]
    exact ⟨_, _, _, h1, ⟨_, _, rfl, hl⟩, h3⟩
  · rw [h4]
    exact ⟨_, _, _, h1, ⟨_, _, rfl, hl⟩, h3⟩
theorem insW_all (n : Nat) : ∀ (l a : List (List Int)), (l.foldl (fun a w => insW w a) a).length ≤ l.length + a.length
  | [], a => by simp
  | w :: l, a => by
    have h1 := insW_all n l (insW w a)
    have h2 := insW_len w a
    simp only [List.foldl_cons, List.length_cons]
    omega
theorem tellF_len (T : Tb) : (tellF T).1.length ≤ 1000000000 ∧ ∀ x ∈ (tellF T).1, x.length ≤ 1000000000 := by
  unfold tellF
  cases h : validT T
  · exact ⟨by simp, by simp⟩
  · have hV := (validT_iff T).mp h
    have hL := least_valid hV
    have hst := hL.st
    have h1 := insW_all 0 (tellAll (leastT T) (leastT T).st.toNat) []
    have h2 : (tellAll (leastT T) (leastT T).st.toNat).length ≤ 30 * 30 := by
      unfold tellAll
      rw [List.length_flatMap]
      have h3 : ∀ x ∈ (List.range (leastT T).st.toNat).map (fun a => (tellRow (leastT T) a (leastT T).st.toNat).length), x ≤ 30 := fun x hx => by
        obtain ⟨a, ha, rfl⟩ := List.mem_map.mp hx
        unfold tellRow
        refine Nat.le_trans (List.length_filterMap_le _ _) ?_
        rw [List.length_range']
        omega
      have h4 : ∀ (l : List Nat), (∀ x ∈ l, x ≤ 30) → l.sum ≤ l.length * 30 := by
        intro l
        induction l with
        | nil => simp
        | cons a l ih =>
          intro hl
          have := ih (fun x hx => hl x (by simp [hx]))
          have := hl a (by simp)
          simp only [List.sum_cons, List.length_cons]
          omega
      have h5 := h4 _ h3
      rw [List.length_map, List.length_range] at h5
      omega
    refine ⟨?_, fun x hx => ?_⟩
    · simp only [if_true]
      unfold onceF
      simp only [List.length_nil] at h1
      omega
    · simp only [if_true] at hx
      rw [onceF_mem] at hx
      unfold tellAll at hx
      obtain ⟨a, ha, hx⟩ := List.mem_flatMap.mp hx
      unfold tellRow at hx
      obtain ⟨c, hc, hd⟩ := List.mem_filterMap.mp hx
      have ha' := List.mem_range.mp ha
      have hc' := List.mem_range'.mp hc
      obtain ⟨i, hi, rfl⟩ := hc'
      have := (differT_words hL hL rfl (by omega) (by omega) x hd).2
      omega
theorem coverF_len (T : Tb) : (coverF T).1.length ≤ 1000000000 ∧ ∀ x ∈ (coverF T).1, x.length ≤ 1000000000 := by
  unfold coverF
  cases h : validT T
  · exact ⟨by simp, by simp⟩
  · have hV := (validT_iff T).mp h
    have hL := least_valid hV
    have hst := hL.st
    obtain ⟨hok, _, _⟩ := walkF_law hL 40 0 _ rfl (WOk.start hL) ⟨[], rfl⟩ (fun k hk hki => by omega)
    refine ⟨by simp [coverL]; omega, fun x hx => ?_⟩
    simp only [if_true] at hx
    unfold coverL at hx
    obtain ⟨s, hs, rfl⟩ := List.mem_map.mp hx
    by_cases hm : (s : Int) ∈ keyW (walkT (leastT T))
    · obtain ⟨y, hy, _, e⟩ := lookW_get _ _ hm
      rw [← e]
      obtain ⟨k, hk, rfl⟩ := List.getElem_of_mem hy
      have h1 := hok.len k hk
      have h2 := hok.le
      have h3 : k < (walkF (leastT T) 40 0 [((leastT T).sr, [])]).length := hk
      have h4 : (walkT (leastT T))[k].2.length ≤ k := h1
      omega
    · rw [lookW_none _ _ hm]; simp
end Go.Proofs.Ytnggimkkjdipmaa
namespace Go.Proofs.Ytnggimkkjdipmaa
open Go.RowKit
set_option linter.unusedVariables false
set_option linter.unusedSimpArgs false
set_option maxHeartbeats 16000000
set_option maxRecDepth 100000
theorem tleast_any (T : Tb) (v : Value) (w : World) (hT : TIn w v T) (hz : Fits T) :
    Calls Try.prog 12 #[v] w fun e w' => e = .returned (.bool true) ∧ Fr [] w w' := by
  obtain ⟨r, rfl, hR⟩ := hT
  rw [show T.val r = .agg #[.int .i64 T.st, .int .i64 T.ev, .int .i64 T.sr, r] from rfl]
  have lc := coverF_len T
  have lt := tellF_len T
  have hXf := lsF_fits T
  obtain ⟨⟨X, x⟩, hX⟩ : ∃ y, lsF T = y := ⟨_, rfl⟩
  obtain ⟨⟨C, c⟩, hC⟩ : ∃ y, coverF T = y := ⟨_, rfl⟩
  obtain ⟨⟨K, k⟩, hK⟩ : ∃ y, tellF T = y := ⟨_, rfl⟩
  rw [hX] at hXf
  rw [hC] at lc
  rw [hK] at lt
  dsimp only at lc lt hXf
  have LA : ∀ W, Fr [] w W → Calls Try.prog 31 #[.agg #[.int .i64 T.st, .int .i64 T.ev, .int .i64 T.sr, r]] W (LsR X x W) := fun W f => by
    have := Least_ls T _ W ⟨r, rfl, hR.fr f⟩; rw [hX] at this; exact this
  have LB : ∀ W v, TIn W v T → Calls Try.prog 40 #[v] W (LsR X x W) := fun W v f => by
    have := rLeast_ls T _ W f; rw [hX] at this; exact this
  have CA : ∀ W, Fr [] w W → Calls Try.prog 41 #[.agg #[.int .i64 T.st, .int .i64 T.ev, .int .i64 T.sr, r]] W (CvR C c W) := fun W f => by
    have := Cover_any T _ W ⟨r, rfl, hR.fr f⟩; rw [hC] at this; exact this
  have CB : ∀ W v, TIn W v T → Calls Try.prog 42 #[v] W (CvR C c W) := fun W v f => by
    have := rCover_any T _ W f; rw [hC] at this
    exact this.mono fun e w' ⟨v', ps', h1, h2, h3, h4⟩ => ⟨v', h1, by have := h3.sin; rw [h2] at this; exact this, h4⟩
  have KA : ∀ W, Fr [] w W → Calls Try.prog 44 #[.agg #[.int .i64 T.st, .int .i64 T.ev, .int .i64 T.sr, r]] W (CvR K k W) := fun W f => by
    have := Tell_any T _ W ⟨r, rfl, hR.fr f⟩; rw [hK] at this
    exact this.mono fun e w' ⟨v', ps', bo, h1, h2, h3, h4⟩ => ⟨v', h1, by have := h3.sin; rw [show ps'.map (·.2) = K from h2] at this; exact this, h4⟩
  have KB : ∀ W v, TIn W v T → Calls Try.prog 45 #[v] W (CvR K k W) := fun W v f => by
    have := rTell_any T _ W f; rw [hK] at this
    exact this.mono fun e w' ⟨v', ps', h1, h2, h3, h4⟩ => ⟨v', h1, by have := h3.sin; rw [h2] at this; exact this, h4⟩
  have TO : ∀ W, Fr [] w W → Calls Try.prog 18 #[.agg #[.int .i64 T.st, .int .i64 T.ev, .int .i64 T.sr, r]] W fun e w' => ∃ rv, e = .returned rv ∧ TIn w' rv T ∧ Fr [] W w' := fun W f => to_any T _ W ⟨r, rfl, hR.fr f⟩ hz
  have TX : ∀ W ra, RIn W ra X.rows → Calls Try.prog 18 #[.agg #[.int .i64 X.st, .int .i64 X.ev, .int .i64 X.sr, ra]] W fun e w' => ∃ rv, e = .returned rv ∧ TIn w' rv X ∧ Fr [] W w' := fun W ra f => to_any X _ W ⟨ra, rfl, f⟩ hXf
  have SX : ∀ W va rb, TIn W va X → RIn W rb X.rows → Calls Try.prog 32 #[va, .agg #[.int .i64 X.st, .int .i64 X.ev, .int .i64 X.sr, rb]] W fun e w' => e = .returned (.bool true) ∧ Fr [] W w' := fun W va rb h1 h2 => rsame_fit X _ _ W h1 ⟨rb, rfl, h2⟩ hXf
  have RC : ∀ W va vb, SIn W va C → SIn W vb C → Calls Try.prog 43 #[va, vb] W fun e w' => e = .returned (.bool true) ∧ Fr [] W w' := fun W va vb h1 h2 => by
    have := rows_any va vb C C W h1 h2 lc.1 lc.2; rw [decide_eq_true rfl] at this; exact this
  have RK : ∀ W va vb, SIn W va K → SIn W vb K → Calls Try.prog 43 #[va, vb] W fun e w' => e = .returned (.bool true) ∧ Fr [] W w' := fun W va vb h1 h2 => by
    have := rows_any va vb K K W h1 h2 lt.1 lt.2; rw [decide_eq_true rfl] at this; exact this
  obtain ⟨w1, hw1⟩ : ∃ x, w.alloc (.cells #[.int .i64 T.st, .int .i64 T.ev, .int .i64 T.sr, r] TTab) = x := ⟨_, rfl⟩
  have P1 := Pt.newA w TTab #[.int .i64 T.st, .int .i64 T.ev, .int .i64 T.sr, r]
  rw [hw1] at P1
  have F1 : Fr [] w w1 := by rw [← hw1]; exact (Fr.refl [] w).alloc _
  obtain ⟨b1, hb1⟩ : ∃ x, w.heap.size = x := ⟨_, rfl⟩
  rw [hb1] at P1
  have k1 := P1.cell
  clear lc lt
  replace P1 := Lib.hid P1; replace F1 := Lib.hid F1; replace LA := Lib.hid LA; replace LB := Lib.hid LB; replace CA := Lib.hid CA; replace CB := Lib.hid CB; replace KA := Lib.hid KA; replace KB := Lib.hid KB; replace TO := Lib.hid TO; replace TX := Lib.hid TX; replace SX := Lib.hid SX; replace RC := Lib.hid RC; replace RK := Lib.hid RK; replace hX := Lib.hid hX; replace hC := Lib.hid hC; replace hK := Lib.hid hK; replace hXf := Lib.hid hXf; replace hz := Lib.hid hz
  go_enter Try.func12, Try.ntmps12
  go_wp2_with fail
  refine (LA.out _ F1.out).mono ?_
  rintro e w2 ⟨oa, na, ca, rfl, ha, f2⟩
  have F2 := F1.out.trans f2
  have P2 := f2.pt P1.out (by simp)
  obtain ⟨w3, hw3⟩ : ∃ x, w2.alloc (.cells #[.int .i64 X.st, .int .i64 X.ev, .int .i64 X.sr, .slice oa na ca] TTab) = x := ⟨_, rfl⟩
  have P3 := Pt.newA w2 TTab #[.int .i64 X.st, .int .i64 X.ev, .int .i64 X.sr, .slice oa na ca]
  rw [hw3] at P3
  have F3 : Fr [] w2 w3 := by rw [← hw3]; exact (Fr.refl [] w2).alloc _
  obtain ⟨b3, hb3⟩ : ∃ x, w2.heap.size = x := ⟨_, rfl⟩
  rw [hb3] at P3
  have F3' := F2.trans F3
  have Q1 := F3.pt P2 (by simp)
  have k3 := Q1.cell
  have ha3 := ha.fr F3
  clear k1 hw1 hb1
  replace ha := Lib.hid ha; replace f2 := Lib.hid f2; replace F2 := Lib.hid F2; replace P2 := Lib.hid P2; replace P3 := Lib.hid P3; replace F3 := Lib.hid F3; replace F3' := Lib.hid F3'; replace Q1 := Lib.hid Q1; replace ha3 := Lib.hid ha3
  go_wp2_with fail
  refine (TO.out _ F3'.out).mono ?_
  rintro e w4 ⟨v4, rfl, t4, f4⟩
  have F4 := F3'.out.trans f4
  have Q4 := f4.pt Q1.out (by simp)
  have C4 := LB.out _ v4 t4
  clear k3 hb3 hw3
  replace t4 := Lib.hid t4; replace f4 := Lib.hid f4; replace F4 := Lib.hid F4; replace Q4 := Lib.hid Q4; replace C4 := Lib.hid C4
  go_wp2_with fail
  refine C4.out.mono ?_
  rintro e w5 ⟨ob, nb, cb, rfl, hb, f5⟩
  have F5 := F4.out.trans f5
  have Q5 := f5.pt Q4.out (by simp)
  obtain ⟨w6, hw6⟩ : ∃ x, w5.alloc (.cells #[.int .i64 X.st, .int .i64 X.ev, .int .i64 X.sr, .slice ob nb cb] RTab) = x := ⟨_, rfl⟩
  have P6 := Pt.newA w5 RTab #[.int .i64 X.st, .int .i64 X.ev, .int .i64 X.sr, .slice ob nb cb]
  rw [hw6] at P6
  have F6 : Fr [] w5 w6 := by rw [← hw6]; exact (Fr.refl [] w5).alloc _
  obtain ⟨b5, hb5⟩ : ∃ x, w5.heap.size = x := ⟨_, rfl⟩
  rw [hb5] at P6
  have F6' := F5.trans F6
  have Q6 := F6.pt Q5 (by simp)
  have f36 := (f4.out.trans f5).trans F6
  have P36 := f36.pt P3.out (by simp)
  have ha6 := ha3.out.fr f36
  have hb6 := hb.fr F6
  have KW : ∀ W, Fr [] w6 W → (W.cell? ⟨b3, 0, none⟩ = some (.int .i64 X.st) ∧ W.cell? ⟨b3, 1, none⟩ = some (.int .i64 X.ev) ∧ W.cell? ⟨b3, 2, none⟩ = some (.int .i64 X.sr) ∧ W.cell? ⟨b3, 3, none⟩ = some (.slice oa na ca) ∧ W.cell? ⟨b5, 0, none⟩ = some (.int .i64 X.st) ∧ W.cell? ⟨b5, 1, none⟩ = some (.int .i64 X.ev) ∧ W.cell? ⟨b5, 2, none⟩ = some (.int .i64 X.sr) ∧ W.cell? ⟨b5, 3, none⟩ = some (.slice ob nb cb)) := fun W f => by
    have p := (f.pt P36 (by simp)).cell
    have q := (f.pt P6 (by simp)).cell
    exact ⟨p 0, p 1, p 2, p 3, q 0, q 1, q 2, q 3⟩
  have hw6' := hw6
  clear hw6
  replace hb := Lib.hid hb; replace f5 := Lib.hid f5; replace F5 := Lib.hid F5; replace Q5 := Lib.hid Q5; replace P6 := Lib.hid P6; replace F6 := Lib.hid F6; replace F6' := Lib.hid F6'; replace Q6 := Lib.hid Q6; replace f36 := Lib.hid f36; replace P36 := Lib.hid P36; replace ha6 := Lib.hid ha6; replace hb6 := Lib.hid hb6; replace KW := Lib.hid KW; replace hb5 := Lib.hid hb5; replace hw6' := Lib.hid hw6'
  go_upto_region 3 with fail
  rw [hb5.out, hw6'.out]
  obtain ⟨ka1, ka2, ka3, ka4, kb1, kb2, kb3, kb4⟩ := KW.out w6 (Fr.refl _ _)
  go_region_held3 (fun W => W.cell? ⟨b3, 0, none⟩ = some (.int .i64 X.st) ∧ W.cell? ⟨b3, 1, none⟩ = some (.int .i64 X.ev) ∧ W.cell? ⟨b3, 2, none⟩ = some (.int .i64 X.sr) ∧ W.cell? ⟨b3, 3, none⟩ = some (.slice oa na ca) ∧ W.cell? ⟨b5, 0, none⟩ = some (.int .i64 X.st) ∧ W.cell? ⟨b5, 1, none⟩ = some (.int .i64 X.ev) ∧ W.cell? ⟨b5, 2, none⟩ = some (.int .i64 X.sr) ∧ W.cell? ⟨b5, 3, none⟩ = some (.slice ob nb cb))
    (first | exact KW.out _ (Fr.refl _ _).drew | exact KW.out _ G8.out | exact KW.out _ G7.out)
    ((first
      | (go_at_call 18; refine Calls.mono (TX.out _ (.slice oa na ca) (ha6.out.fr (Fr.refl _ _).drew)) ?_; rintro e w7 ⟨v7, rfl, t7, f7⟩; have G7 := Lib.hid (((Fr.refl [] w6).drew).trans f7); replace t7 := Lib.hid t7; replace f7 := Lib.hid f7)
      | (go_at_call 32; refine Calls.mono (SX.out w7 v7 (.slice ob nb cb) t7.out (hb6.out.fr G7.out)) ?_; rintro e w8 ⟨rfl, f8⟩; have G8 := Lib.hid (G7.out.trans f8); replace f8 := Lib.hid f8)))
  all_goals
    have Q8 := G8.out.pt Q6.out (by simp)
    have k8 := Q8.cell
    have F8 := F6'.out.trans G8.out
    clear ka1 ka2 ka3 ka4 kb1 kb2 kb3 kb4 KW
    replace Q8 := Lib.hid Q8; replace F8 := Lib.hid F8
    go_wp2_with fail
    refine (CA.out _ F8.out).mono ?_
    rintro e w9 ⟨v9, rfl, n9, f9⟩
    have F9 := F8.out.trans f9
    have Q9 := f9.pt Q8.out (by simp)
    have k9 := Q9.cell
    clear k8
    replace n9 := Lib.hid n9; replace f9 := Lib.hid f9; replace F9 := Lib.hid F9; replace Q9 := Lib.hid Q9
    go_wp2_with fail
    refine (TO.out _ F9.out).mono ?_
    rintro e w10 ⟨v10, rfl, t10, f10⟩
    have F10 := F9.out.trans f10
    have Q10 := f10.pt Q9.out (by simp)
    have C10 := CB.out _ _ t10
    clear k9
    replace t10 := Lib.hid t10; replace f10 := Lib.hid f10; replace F10 := Lib.hid F10; replace Q10 := Lib.hid Q10; replace C10 := Lib.hid C10
    go_wp2_with fail
    refine C10.out.mono ?_
    rintro e w11 ⟨v11, rfl, n11, f11⟩
    have F11 := F10.out.trans f11
    have Q11 := f11.pt Q10.out (by simp)
    have R11 := RC.out w11 v9 v11 (n9.out.fr (f10.out.trans f11)) n11
    replace n11 := Lib.hid n11; replace f11 := Lib.hid f11; replace F11 := Lib.hid F11; replace Q11 := Lib.hid Q11; replace R11 := Lib.hid R11
    go_wp2_with fail
    refine R11.out.mono ?_
    rintro e w12 ⟨rfl, f12⟩
    have F12 := F11.out.trans f12
    have Q12 := f12.pt Q11.out (by simp)
    have k12 := Q12.cell
    replace f12 := Lib.hid f12; replace F12 := Lib.hid F12; replace Q12 := Lib.hid Q12
    go_wp2_with fail
    refine (KA.out _ F12.out).mono ?_
    rintro e w13 ⟨v13, rfl, n13, f13⟩
    have F13 := F12.out.trans f13
    have Q13 := f13.pt Q12.out (by simp)
    have k13 := Q13.cell
    clear k12
    replace n13 := Lib.hid n13; replace f13 := Lib.hid f13; replace F13 := Lib.hid F13; replace Q13 := Lib.hid Q13
    go_wp2_with fail
    refine (TO.out _ F13.out).mono ?_
    rintro e w14 ⟨v14, rfl, t14, f14⟩
    have F14 := F13.out.trans f14
    have C14 := KB.out _ _ t14
    clear k13
    replace t14 := Lib.hid t14; replace f14 := Lib.hid f14; replace F14 := Lib.hid F14; replace C14 := Lib.hid C14
    go_wp2_with fail
    refine C14.out.mono ?_
    rintro e w15 ⟨v15, rfl, n15, f15⟩
    have F15 := F14.out.trans f15
    have R15 := RK.out w15 v13 v15 (n13.out.fr (f14.out.trans f15)) n15
    replace n15 := Lib.hid n15; replace f15 := Lib.hid f15; replace F15 := Lib.hid F15; replace R15 := Lib.hid R15
    go_wp2_with fail
    refine R15.out.mono ?_
    rintro e w16 ⟨rfl, f16⟩
    have F16 := F15.out.trans f16
    have SN := sane_any w16
    replace f16 := Lib.hid f16; replace F16 := Lib.hid F16; replace SN := Lib.hid SN
    go_wp2_with fail
    refine (SN.out).mono ?_
    rintro e w17 ⟨rfl, f17⟩
    have F17 := F16.out.trans f17
    replace f17 := Lib.hid f17; replace F17 := Lib.hid F17
    go_wp2_with fail
    go_ret
    exact ⟨rfl, F17.out⟩
end Go.Proofs.Ytnggimkkjdipmaa
