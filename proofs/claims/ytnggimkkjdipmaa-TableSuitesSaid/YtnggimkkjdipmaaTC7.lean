import Derived.Test.YtnggimkkjdipmaaTC4
import Derived.Test.YtnggimkkjdipmaaTJ2
namespace Go.Proofs.Ytnggimkkjdipmaa
open Go.RowKit
set_option linter.unusedVariables false
set_option linter.unusedSimpArgs false
set_option maxHeartbeats 16000000
set_option maxRecDepth 100000
/-! ### Missing, as the program reckons -/
theorem uPairsM : Try.prog.underlying 39 = some (.slice 93) := by kernel_rfl
noncomputable def iArrM : TypeInfo := (Try.prog.info? 93).getD default
theorem infoArrM : Try.prog.info? 93 = some iArrM := by kernel_rfl
noncomputable def zArrM : Value := iArrM.zero.getD (.int .i64 0)
/-- append of one pair to a row of pairs. -/
theorem Row.addP {w : World} {v : Value} {l : List (Int × Int)} {bo : Option Nat} (h : Row 2 w v l.length (pcells l) bo) (hn : l.length < 100000) (x : Int × Int) :
    ∃ v' w9 bo', (Builtin.append_ #[39, 39] 39 #[v, .slice (some ⟨w.heap.size, 0, none⟩) 1 1]).run Try.prog (w.alloc (.cells #[.int .i64 x.1, .int .i64 x.2] 93)) = .ok v' w9 ∧
      Row 2 w9 v' (l ++ [x]).length (pcells (l ++ [x])) bo' ∧ (bo' = bo ∨ ∃ z, bo' = some z ∧ w.heap.size ≤ z) ∧ Fr bo.toList w w9 := by
  have fa : Fr [] w (w.alloc (.cells #[.int .i64 x.1, .int .i64 x.2] 93)) := (Fr.refl [] w).alloc _
  have P1 := Pt.newA w 93 #[.int .i64 x.1, .int .i64 x.2]
  have hsrc : Src Try.prog 2 39 (.slice (some ⟨w.heap.size, 0, none⟩) 1 1) 1 (pcells [x]) (w.alloc (.cells #[.int .i64 x.1, .int .i64 x.2] 93)) :=
    Src.ofSlice _ uPairsM ⟨w.heap.size, 0, none⟩ 1 1 _ rfl (fun j u hu => by rw [Addr.add_lit, P1.cell, Nat.zero_add]; simpa [pcells] using hu) (by intro u hu; simp [pcells] at hu; rcases hu with rfl | rfl <;> rfl)
  obtain ⟨v', w9, bo', hrun, hr, hb, hf⟩ := (h.fr fa (by simp)).append (t := 39) (ty := 39) (e := 93) (i := iArrM) (z := zArrM) uPairsM infoArrM (by kernel_rfl) (by kernel_rfl) (by omega) (by kernel_rfl) (of_decide_eq_true (by kernel_rfl)) (by omega) hsrc (by omega) (by omega)
  refine ⟨v', w9, bo', hrun, ?_, ?_, (fa.mono (by simp)).trans hf⟩
  · rw [pcells_app, List.length_append]; exact hr
  · rcases hb with e | e
    · exact .inl e
    · exact .inr ⟨_, e, by have := fa.size; omega⟩
theorem Row.pinP {w : World} {v : Value} {l : List (Int × Int)} {bo : Option Nat} (h : Row 2 w v l.length (pcells l) bo) : PIn w v l := (h.pinb (q := fun _ => True) (fun _ _ => trivial)).pin
theorem missRow_snoc (s : Int) (r : Int × Int) : ∀ (l : List (Int × Int)) (e : Nat), missRow s e (l ++ [r]) = missRow s e l ++ if r.1 < 0 then [(s, ((e + l.length : Nat) : Int))] else []
  | [], e => by simp [missRow]
  | x :: l, e => by
    have := missRow_snoc s r l (e + 1)
    rw [List.cons_append]
    unfold missRow
    rw [this, show e + 1 + l.length = e + (x :: l).length by simp; omega]
    split <;> simp
theorem missRow_take (s : Int) (row : List (Int × Int)) (j : Nat) (h : j < row.length) : missRow s 0 (row.take (j + 1)) = missRow s 0 (row.take j) ++ if row[j].1 < 0 then [(s, (j : Int))] else [] := by
  rw [List.take_succ_eq_append_getElem h, missRow_snoc, List.length_take, Nat.min_eq_left (by omega), Nat.zero_add]
theorem missRow_len (s : Int) : ∀ (l : List (Int × Int)) (e : Nat), (missRow s e l).length ≤ l.length
  | [], e => by simp [missRow]
  | x :: l, e => by
    have := missRow_len s l (e + 1)
    unfold missRow
    split <;> simp <;> omega
def missTo (T : Tb) (i : Nat) : List (Int × Int) := ((reachL T).take i).flatMap fun s => missRow s 0 (T.rows.getD s.toNat [])
theorem missTo_succ (T : Tb) (i : Nat) (h : i < (reachL T).length) (s : Nat) (hs : (reachL T)[i] = (s : Int)) (row : List (Int × Int)) (hr : T.rows.getD s [] = row) : missTo T (i + 1) = missTo T i ++ missRow s 0 row := by
  unfold missTo
  rw [List.take_succ_eq_append_getElem h, List.flatMap_append, hs]
  have e : T.rows.getD ((s : Int)).toNat [] = row := by rw [show ((s : Int)).toNat = s by omega]; exact hr
  rw [List.flatMap_cons, List.flatMap_nil, List.append_nil, e]
theorem missTo_all (T : Tb) : missTo T (reachL T).length = missL T := by unfold missTo missL; rw [List.take_length]
theorem reachL_len {T : Tb} (hT : VT T) : (reachL T).length ≤ 30 := by
  have h1 := List.length_filter_le (fun s => decide (s ∈ orderT T)) ((List.range T.st.toNat).map fun k : Nat => (k : Int))
  have h2 := hT.st
  unfold reachL
  simp only [List.length_map, List.length_range] at h1
  omega
theorem flat_len2 {α β : Type} (f : α → List β) (c : Nat) : ∀ (l : List α), (∀ x ∈ l, (f x).length ≤ c) → (l.flatMap f).length ≤ l.length * c
  | [], _ => by simp
  | x :: l, h => by
    have h1 := h x (by simp)
    have h2 := flat_len2 f c l (fun y hy => h y (by simp [hy]))
    rw [List.flatMap_cons, List.length_append, List.length_cons, Nat.add_mul]; omega
theorem row12 {T : Tb} (hT : VT T) (s : Nat) : (T.rows.getD s []).length ≤ 12 := by
  rw [List.getD_eq_getElem?_getD]
  by_cases h : s < T.rows.length
  · rw [List.getElem?_eq_getElem h]
    have := hT.row _ (List.getElem_mem h); have := hT.ev
    simp; omega
  · rw [List.getElem?_eq_none (by omega)]; simp
theorem missTo_len {T : Tb} (hT : VT T) (i : Nat) : (missTo T i).length ≤ 360 := by
  have h1 := flat_len2 (fun s : Int => missRow s 0 (T.rows.getD s.toNat [])) 12 ((reachL T).take i) (fun s _ => by
    have := missRow_len s (T.rows.getD s.toNat []) 0; have := row12 hT s.toNat; omega)
  have h2 := reachL_len hT
  have h3 : ((reachL T).take i).length ≤ (reachL T).length := by rw [List.length_take]; omega
  unfold missTo
  omega
theorem Missing_any (T : Tb) (v : Value) (w : World) (hT : TIn w v T) :
    Calls Try.prog 35 #[v] w fun e w' => ∃ ov, e = .returned (.tuple #[ov, .int .i64 (missF T).2]) ∧ PIn w' ov (missF T).1 ∧ Fr [] w w' := by
  obtain ⟨r, rfl, hR⟩ := hT
  rw [show T.val r = .agg #[.int .i64 T.st, .int .i64 T.ev, .int .i64 T.sr, r] from rfl]
  have VA : ∀ W, Fr [] w W → Calls Try.prog 19 #[.agg #[.int .i64 T.st, .int .i64 T.ev, .int .i64 T.sr, r]] W fun e w' => e = .returned (.bool (validT T)) ∧ Fr [] W w' := fun W f => valid_any T _ W ⟨r, rfl, hR.fr f⟩
  obtain ⟨w1, hw1⟩ : ∃ x, w.alloc (.cells #[.int .i64 T.st, .int .i64 T.ev, .int .i64 T.sr, r] TTab) = x := ⟨_, rfl⟩
  have P1 := Pt.newA w TTab #[.int .i64 T.st, .int .i64 T.ev, .int .i64 T.sr, r]
  rw [hw1] at P1
  have F1 : Fr [] w w1 := by rw [← hw1]; exact (Fr.refl [] w).alloc _
  obtain ⟨b1, hb1⟩ : ∃ x, w.heap.size = x := ⟨_, rfl⟩
  rw [hb1] at P1
  have k1 := P1.cell
  have l0 : w.heap.size ≤ b1 := by omega
  replace P1 := Lib.hid P1; replace F1 := Lib.hid F1; replace VA := Lib.hid VA; replace hR := Lib.hid hR
  obtain ⟨⟨X, z⟩, hX⟩ : ∃ x, missF T = x := ⟨_, rfl⟩
  rw [hX]
  dsimp only
  replace hX := Lib.hid hX
  go_enter Try.func35, Try.ntmps35
  go_wp2_with fail
  refine (VA.out _ F1.out).mono ?_
  rintro e w2 ⟨rfl, f2⟩
  have F2 := Lib.hid (F1.out.trans f2)
  have P2 := Lib.hid (f2.pt P1.out (by simp))
  have k2 := P2.out.cell
  replace f2 := Lib.hid f2
  clear k1 hw1 hb1
  cases hv : validT T
  · have hx := hX.out
    unfold missF at hx
    rw [hv] at hx
    obtain ⟨rfl, rfl⟩ : [] = X ∧ 1 = z := by simpa using hx
    clear hx
    replace hv := Lib.hid hv
    go_wp2_with fail
    go_ret2
    exact ⟨_, rfl, (Row.nil 2 _ none).pinP, F2.out⟩
  · have hV := (validT_iff T).mp hv
    have hx := hX.out
    unfold missF at hx
    rw [hv] at hx
    obtain ⟨rfl, rfl⟩ : missL T = X ∧ 0 = z := by simpa using hx
    clear hx
    have RE := reach_any T _ w2 ⟨r, rfl, hR.out.fr F2.out⟩ hV
    have hrl := hV.rows
    have hst := hV.st
    have hl30 := reachL_len hV
    have hmt := fun i => missTo_len hV i
    obtain ⟨N, hN⟩ : ∃ n, (reachL T).length = n := ⟨_, rfl⟩
    replace RE := Lib.hid RE; replace hv := Lib.hid hv; replace hV := Lib.hid hV; replace hrl := Lib.hid hrl; replace hst := Lib.hid hst; replace hmt := Lib.hid hmt
    go_wp2_with fail
    refine RE.out.mono ?_
    rintro e w3 ⟨ov, rfl, ⟨o, cap, rfl, hns⟩, f3⟩
    have F3 := F2.out.trans f3
    have P3 := f3.pt P2.out (by simp)
    rw [hN] at hl30 ⊢
    have l3 := P3.lt
    replace f3 := Lib.hid f3; replace F3 := Lib.hid F3; replace P3 := Lib.hid P3; replace hns := Lib.hid hns; replace hN := Lib.hid hN
    clear k2
    go_wp2_with fail
    go_loopg [4, 15] (N + 1) (fun k v4 v15 wr => ∃ (i : Nat) (bo : Option Nat), i ≤ N ∧ k + i = N + 1 ∧ v15 = .int .i64 i ∧ Row 2 wr v4 (missTo T i).length (pcells (missTo T i)) bo ∧ (∀ z, bo = some z → w3.heap.size ≤ z) ∧ Pt wr b1 TTab [.int .i64 T.st, .int .i64 T.ev, .int .i64 T.sr, r] ∧ Fr [] w3 wr)
    case atStart => exact ⟨0, none, by omega, by omega, rfl, Row.nil 2 _ none, by simp, P3.out, Fr.refl _ _⟩
    case round =>
      obtain ⟨i, bo, hi, hk, rfl, hr, hbo, hA, hF⟩ := hrel
      obtain ⟨wi, rfl⟩ : ∃ x : World, x = wr := ⟨_, rfl⟩
      obtain ⟨gi, rfl⟩ : ∃ g : Nat, g = gk := ⟨_, rfl⟩
      by_cases hlt : i < N
      · have hltI : (i : Int) < N := by omega
        have hlt' : i < (reachL T).length := by rw [hN.out]; exact hlt
        obtain ⟨bN, oN, rfl, hbN, cN⟩ := hns.out i hlt'
        have hsr := (order_ok hV.out).rng _ ((reachL_mem hV.out _).mp (List.getElem_mem hlt'))
        obtain ⟨s, hs⟩ : ∃ s : Nat, (reachL T)[i] = (s : Int) := ⟨(reachL T)[i].toNat, by omega⟩
        rw [hs] at cN hsr
        have cN' := hF.cell (p := ⟨bN, oN + i, none⟩) hbN (by simp)
        rw [cN] at cN'
        have hsR : s < T.rows.length := by have := hrl.out; omega
        have hsRI : (s : Int) < T.rows.length := by omega
        obtain ⟨oR, cR, rfl, hlR⟩ := hR.out
        obtain ⟨BB, off, u, rfl, hBB, hcB, o2, cap2, rfl, hu⟩ := hlR s hsR
        obtain ⟨row, hrow⟩ : ∃ row, T.rows[s] = row := ⟨_, rfl⟩
        have hrow2 : T.rows.getD s [] = row := by rw [List.getD_eq_getElem?_getD, List.getElem?_eq_getElem hsR, hrow]; rfl
        have hsz := F3.out.size
        have c1 := (F3.out.trans hF).cell (p := ⟨BB, off + s, none⟩) hBB (by simp)
        rw [hcB, hrow] at c1
        rw [hrow] at hu
        have hl12 := row12 hV.out s
        rw [hrow2] at hl12
        have hmi := hmt.out i
        have hsucc := missTo_succ T i hlt' s hs row hrow2
        obtain ⟨ML, hML⟩ : ∃ x, missTo T i = x := ⟨_, rfl⟩
        rw [hML] at hr hsucc hmi
        have kA := hA.cell
        replace hr := Lib.hid hr; replace hA := Lib.hid hA; replace hF := Lib.hid hF; replace hu := Lib.hid hu; replace hsucc := Lib.hid hsucc; replace hrow := Lib.hid hrow; replace hrow2 := Lib.hid hrow2; replace hML := Lib.hid hML; replace hs := Lib.hid hs; replace hcB := Lib.hid hcB; replace cN := Lib.hid cN; replace hbo := Lib.hid hbo; replace hlR := Lib.hid hlR
        go_wp2_with fail
        clear kA cN' c1
        go_loopg [4, 25] (row.length + 1) (fun k v4 v25 wr => ∃ (j : Nat) (bo : Option Nat), j ≤ row.length ∧ k + j = row.length + 1 ∧ v25 = .int .i64 j ∧ Row 2 wr v4 (ML ++ missRow s 0 (row.take j)).length (pcells (ML ++ missRow s 0 (row.take j))) bo ∧ (∀ z, bo = some z → w3.heap.size ≤ z) ∧ Pt wr b1 TTab [.int .i64 T.st, .int .i64 T.ev, .int .i64 T.sr, .slice (some ⟨BB, off, none⟩) T.rows.length cR] ∧ Fr [] w3 wr)
        case atStart => exact ⟨0, bo, by omega, by omega, rfl, by simpa [missRow] using hr.out, hbo.out, hA.out, hF.out⟩
        clear hr hA hF hbo
        case round =>
          obtain ⟨j, bo, hj, hk2, rfl, hr, hbo, hA, hF⟩ := hrel
          by_cases hjl : j < row.length
          · have hjlI : (j : Int) < row.length := by omega
            obtain ⟨B2, off2, rfl, hB2, a1, a2⟩ := hu.out j hjl
            have c1 := (F3.out.trans hF).cell (p := ⟨B2, off2 + j * 2, none⟩) hB2 (by simp)
            have c2 := (F3.out.trans hF).cell (p := ⟨B2, off2 + j * 2 + 1, none⟩) hB2 (by simp)
            rw [a1] at c1
            rw [a2] at c2
            have htk := missRow_take s row j hjl
            obtain ⟨⟨x1, x2⟩, hx⟩ : ∃ x, row[j] = x := ⟨_, rfl⟩
            rw [hx] at c1 c2 htk
            dsimp only at c1 c2 htk
            obtain ⟨w4, hw4⟩ : ∃ x, wr.alloc (.cells #[.int .i64 x1, .int .i64 x2] TRow) = x := ⟨_, rfl⟩
            have P4 := Pt.newA wr TRow #[.int .i64 x1, .int .i64 x2]
            rw [hw4] at P4
            have F4 : Fr [] wr w4 := by rw [← hw4]; exact (Fr.refl [] wr).alloc _
            obtain ⟨b4, hb4⟩ : ∃ x, wr.heap.size = x := ⟨_, rfl⟩
            rw [hb4] at P4
            have k4 := P4.cell
            have A4 := F4.pt hA (by simp)
            have G4 := hF.trans F4
            have hml := missRow_len s (row.take j) 0
            have htl : (row.take j).length ≤ 12 := by rw [List.length_take]; omega
            clear a1 a2
            by_cases hneg : x1 < 0
            · as_aux_lemma =>
              rw [if_pos hneg] at htk
              obtain ⟨v', w9, bo', happ, hr9, hb9, f9⟩ := (hr.fr F4 (by simp)).addP (by rw [List.length_append]; omega) ((s : Int), (j : Int))
              rw [List.append_assoc, ← htk] at hr9
              have h49 : w3.heap.size ≤ w4.heap.size := G4.size
              have hb9' : ∀ z, bo' = some z → w3.heap.size ≤ z := fun z hz => by
                rcases hb9 with e | ⟨z', e, h2⟩
                · exact hbo z (by rw [← e]; exact hz)
                · rw [hz] at e; cases e; omega
              have A9 := f9.pt A4 (fun hm => by have := hbo b1 (by simpa using hm); omega)
              have G9 := G4.step f9 (fun z hz => .inr (hbo z (by simpa using hz)))
              obtain ⟨oz, cz, rfl⟩ := hr.len
              dsimp only at happ
              replace hr := Lib.hid hr; replace hA := Lib.hid hA; replace hF := Lib.hid hF; replace hbo := Lib.hid hbo; replace htk := Lib.hid htk; replace P4 := Lib.hid P4; replace F4 := Lib.hid F4; replace A4 := Lib.hid A4; replace G4 := Lib.hid G4; replace hr9 := Lib.hid hr9; replace hb9 := Lib.hid hb9; replace hb9' := Lib.hid hb9'; replace A9 := Lib.hid A9; replace G9 := Lib.hid G9; replace f9 := Lib.hid f9; replace hx := Lib.hid hx; replace happ := Lib.hid happ
              go_wp2_with (first | (at_builtin; refine wpList_append_run _ rfl _ _ _ rfl rfl rfl happ.out ?_))
              go_roundg (gk - 1)
              case measure => omega
              case rel => exact ⟨j + 1, _, by omega, by omega, by go_num, hr9.out, hb9'.out, A9.out, G9.out⟩
            · as_aux_lemma =>
              rw [if_neg hneg, List.append_nil] at htk
              have hr4 := hr.fr F4 (by simp)
              rw [← htk] at hr4
              replace hr := Lib.hid hr; replace hA := Lib.hid hA; replace hF := Lib.hid hF; replace hbo := Lib.hid hbo; replace htk := Lib.hid htk; replace P4 := Lib.hid P4; replace F4 := Lib.hid F4; replace A4 := Lib.hid A4; replace G4 := Lib.hid G4; replace hr4 := Lib.hid hr4; replace hx := Lib.hid hx
              go_wp2_with fail
              go_roundg (gk - 1)
              case measure => omega
              case rel => exact ⟨j + 1, _, by omega, by omega, by go_num, hr4.out, hbo.out, A4.out, G4.out⟩
          · as_aux_lemma =>
            have hjlI : ¬ (j : Int) < row.length := by omega
            have htk : row.take j = row := List.take_of_length_le (by omega)
            rw [htk, ← hsucc.out] at hr
            replace hr := Lib.hid hr; replace hA := Lib.hid hA; replace hF := Lib.hid hF; replace hbo := Lib.hid hbo
            go_wp2_with fail
            go_roundg (gi - 1)
            case measure => omega
            case rel => exact ⟨i + 1, _, by omega, by omega, by go_num, hr.out, hbo.out, hA.out, hF.out⟩
      · as_aux_lemma =>
        have hltI : ¬ (i : Int) < N := by omega
        obtain rfl : i = N := by omega
        have hall := missTo_all T
        rw [hN.out] at hall
        rw [hall] at hr
        have FE := F3.out.trans hF
        have PE := hr.pinP
        replace hr := Lib.hid hr; replace hA := Lib.hid hA; replace hF := Lib.hid hF; replace hbo := Lib.hid hbo; replace FE := Lib.hid FE; replace PE := Lib.hid PE; replace hall := Lib.hid hall
        go_wp2_with fail
        go_ret2
        exact ⟨_, rfl, PE.out, FE.out⟩
end Go.Proofs.Ytnggimkkjdipmaa
