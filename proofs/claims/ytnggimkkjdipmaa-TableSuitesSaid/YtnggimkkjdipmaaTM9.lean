import Derived.Test.YtnggimkkjdipmaaTM8
namespace Go.Proofs.Ytnggimkkjdipmaa
open Go.RowKit
set_option linter.unusedVariables false
set_option linter.unusedSimpArgs false
set_option maxHeartbeats 16000000
set_option maxRecDepth 100000
def rmutTo (T : Tb) (i : Nat) : List Mut := (reachTo T i).flatMap (mutS T)
theorem rmutTo_all (T : Tb) : rmutTo T T.st.toNat = mutL T := rfl
theorem rmutTo_succ (T : Tb) (k : Nat) (row : List (Int × Int)) (hr : T.rows.getD k [] = row) : rmutTo T (k + 1) = rmutTo T k ++ if (k : Int) ∈ orderT T then mutRows T k 0 row else [] := by
  unfold rmutTo
  rw [reachTo_succ, List.flatMap_append]
  congr 1
  by_cases h : (k : Int) ∈ orderT T
  · rw [if_pos h, if_pos h]
    have e : T.rows.getD ((k : Int)).toNat [] = row := by rw [show ((k : Int)).toNat = k by omega]; exact hr
    rw [List.flatMap_cons, List.flatMap_nil, List.append_nil, mutS, e]
  · rw [if_neg h, if_neg h]; rfl
theorem rmutTo_len {T : Tb} (hT : VT T) (i : Nat) (hi : i ≤ 30) : (rmutTo T i).length ≤ 11160 := by
  have h1 := flat_len2 (mutS T) 372 (reachTo T i) (fun s _ => by
    have := mutRows_len hT s (T.rows.getD s.toNat []) 0
    have := row12 hT s.toNat
    unfold mutS; omega)
  have h2 := reachTo_len T i
  unfold rmutTo
  omega
def mIn (T : Tb) (PL : List Mut) (i j : Nat) (r : Int × Int) (k : Nat) : List Mut := PL ++ ((i : Int), (j : Int), (r.1, outM r.2)) :: (nextsR r k).map fun n => ((i : Int), (j : Int), (n, r.2))
theorem mIn_zero (T : Tb) (PL : List Mut) (i j : Nat) (r : Int × Int) : mIn T PL i j r 0 = PL ++ [((i : Int), (j : Int), (r.1, outM r.2))] := rfl
theorem mIn_succ (T : Tb) (PL : List Mut) (i j : Nat) (r : Int × Int) (k : Nat) : mIn T PL i j r (k + 1) = mIn T PL i j r k ++ if (k : Int) = r.1 then [] else [((i : Int), (j : Int), ((k : Int), r.2))] := by
  unfold mIn
  rw [nextsR_succ, List.map_append]
  split <;> simp
theorem mIn_all (T : Tb) (ML : List Mut) (i : Nat) (row : List (Int × Int)) (j : Nat) (h : j < row.length) (r : Int × Int) (hr : row[j] = r) (hn : 0 ≤ r.1) : mIn T (ML ++ mutRows T i 0 (row.take j)) i j r T.st.toNat = ML ++ mutRows T i 0 (row.take (j + 1)) := by
  rw [mutRows_take T i row j h, hr]
  unfold mIn mutRow
  rw [if_neg (by omega), List.append_assoc]
theorem mIn_len (T : Tb) (PL : List Mut) (i j : Nat) (r : Int × Int) (k : Nat) : (mIn T PL i j r k).length ≤ PL.length + 1 + k := by
  have := nextsR_len r k
  unfold mIn
  simp only [List.length_append, List.length_cons, List.length_map]; omega
/-- What mutants hands back: all mutants. -/
def RmR (T : Tb) (w : World) (e : Ending) (w' : World) : Prop := ∃ v L bo, e = .returned v ∧ L.map (·.1) = (mutL T).map T.chg ∧ TsI (fun b => w.heap.size ≤ b) w' v L bo ∧ Fr [] w w'
/-- So far; the list does not lie in block X. -/
def RmI (T : Tb) (B : Nat) (w3 : World) (X : Nat) (wr : World) (v : Value) (M : List Mut) : Prop := ∃ L bo, L.map (·.1) = M.map T.chg ∧ TsI (fun b => B ≤ b) wr v L bo ∧ Fr [] w3 wr ∧ ∀ z, bo = some z → z ≠ X
theorem RmI.fr {T : Tb} {B : Nat} {w3 wr W : World} {X : Nat} {v : Value} {M : List Mut} (h : RmI T B w3 X wr v M) (f : Fr [] wr W) : RmI T B w3 X W v M := by
  obtain ⟨L, bo, h1, h2, h3, h4⟩ := h
  exact ⟨L, bo, h1, h2.fr f (by simp), h3.trans f, h4⟩
theorem RmI.low {T : Tb} {B : Nat} {w3 wr : World} {X : Nat} {v : Value} {M : List Mut} (h : RmI T B w3 X wr v M) (hB : 0 < B) : RmI T B w3 0 wr v M := by
  obtain ⟨L, bo, h1, h2, h3, h4⟩ := h
  exact ⟨L, bo, h1, h2, h3, fun z hz => by have := h2.qo z hz; omega⟩
theorem RmI.avoid {T : Tb} {B : Nat} {w3 wr : World} {X : Nat} {v : Value} {M : List Mut} (h : RmI T B w3 X wr v M) {Y : Nat} (hY : wr.heap.size ≤ Y) : RmI T B w3 Y wr v M := by
  obtain ⟨L, bo, h1, h2, h3, h4⟩ := h
  exact ⟨L, bo, h1, h2, h3, fun z hz => by have h5 := h2.row; rw [hz] at h5; have := h5.lt; omega⟩
theorem RmI.len {T : Tb} {B : Nat} {w3 wr : World} {X : Nat} {v : Value} {M : List Mut} (h : RmI T B w3 X wr v M) : ∃ o c, v = .slice o M.length c := by
  obtain ⟨L, bo, h1, h2, h3⟩ := h
  obtain ⟨o, c, e⟩ := h2.row.len
  have : L.length = M.length := by have := congrArg List.length h1; simpa using this
  exact ⟨o, c, by rw [e, this]⟩
theorem RInB.shape {q : Nat → Prop} {w : World} {v : Value} {l : List (List (Int × Int))} (h : RInB q w v l) : ∃ o k c, v = .slice o k c := by
  obtain ⟨o, cap, rfl, _⟩ := h; exact ⟨_, _, _, rfl⟩
theorem RmI.frw {T : Tb} {B : Nat} {w3 wr : World} {X : Nat} {v : Value} {M : List Mut} (h : RmI T B w3 X wr v M) : Fr [] w3 wr := by
  obtain ⟨L, bo, h1, h2, h3, h4⟩ := h
  exact h3
theorem RmI.add {T : Tb} {B : Nat} {w3 wr W : World} {X : Nat} {v : Value} {M : List Mut} (h : RmI T B w3 X wr v M) (hX : X < wr.heap.size) (hB : B ≤ wr.heap.size) (hw : ∀ z, B ≤ z → w3.heap.size ≤ z) (hM : M.length ≤ 50000) (f : Fr [] wr W) (x : Mut) (rv : Value) (hr : RInB (fun b => wr.heap.size ≤ b) W rv (T.chg x).rows) :
    ∃ v' w9, (Builtin.append_ #[111, 111] 111 #[v, .slice (some ⟨W.heap.size, 0, none⟩) 1 1]).run Try.prog (W.alloc (.cells #[.int .i64 T.st, .int .i64 T.ev, .int .i64 T.sr, rv] RTab)) = .ok v' w9 ∧ RmI T B w3 X w9 v' (M ++ [x]) ∧ ∀ Ty cs, Pt wr X Ty cs → Pt w9 X Ty cs := by
  obtain ⟨L, bo, h1, h2, h3, h4⟩ := h
  have hl : L.length = M.length := by have := congrArg List.length h1; simpa using this
  obtain ⟨v', w9, bo', hrun, hN, hf, hb⟩ := h2.add (by omega) f (T.chg x) rv hr (fun z hz => by omega)
  refine ⟨v', w9, hrun, ⟨L ++ [(T.chg x, rv)], bo', by rw [List.map_append, List.map_append, h1]; rfl, hN, h3.step hf (fun z hz => .inr (hw z (h2.qo z (by simpa using hz)))), fun z hz => ?_⟩, fun Ty cs hp => hf.pt hp (fun hm => h4 X (by simpa using hm) rfl)⟩
  rcases hb with e | ⟨z', e, hz'⟩
  · exact h4 z (by rw [← e]; exact hz)
  · rw [e] at hz; cases hz; omega
theorem rmutants_any (T : Tb) (v : Value) (w : World) (hT : TIn w v T) (hV : VT T) :
    Calls Try.prog 73 #[v] w (RmR T w) := by
  obtain ⟨r, rfl, hR⟩ := hT
  rw [show T.val r = .agg #[.int .i64 T.st, .int .i64 T.ev, .int .i64 T.sr, r] from rfl]
  have CH : ∀ W, Fr [] w W → ∀ x, MutOk T x → Calls Try.prog 93 #[.agg #[.int .i64 T.st, .int .i64 T.ev, .int .i64 T.sr, r], .int .i64 x.1, .int .i64 x.2.1, .agg #[.int .i64 x.2.2.1, .int .i64 x.2.2.2]] W fun e w' => ∃ rv, e = .returned (.agg #[.int .i64 T.st, .int .i64 T.ev, .int .i64 T.sr, rv]) ∧ RInB (fun b => W.heap.size ≤ b) w' rv (T.chg x).rows ∧ Fr [] W w' := fun W f x hx =>
    (changed_any T r x hx W (hR.fr f) hV).mono fun e w' ⟨rv, us, bo, bs, h1, h2, h3⟩ => ⟨rv, h1, h2.rinb, h3⟩
  have hst := hV.st
  have hev := hV.ev
  have hrl := hV.rows
  obtain ⟨n, hn⟩ : ∃ n : Nat, T.st.toNat = n := ⟨_, rfl⟩
  have hnI : T.st = (n : Int) := by omega
  have hn30 : n ≤ 30 := by omega
  obtain ⟨m, hm⟩ : ∃ n : Nat, T.ev.toNat = n := ⟨_, rfl⟩
  have hmI : T.ev = (m : Int) := by omega
  have hm12 : m ≤ 12 := by omega
  obtain ⟨w1, hw1⟩ : ∃ x, w.alloc (.cells #[.int .i64 T.st, .int .i64 T.ev, .int .i64 T.sr, r] RTab) = x := ⟨_, rfl⟩
  have P1 := Pt.newA w RTab #[.int .i64 T.st, .int .i64 T.ev, .int .i64 T.sr, r]
  rw [hw1] at P1
  have F1 : Fr [] w w1 := by rw [← hw1]; exact (Fr.refl [] w).alloc _
  obtain ⟨b1, hb1⟩ : ∃ x, w.heap.size = x := ⟨_, rfl⟩
  rw [hb1] at P1
  have RE := rreached_any T _ w1 ⟨r, rfl, hR.fr F1⟩ hV
  have k1 := P1.cell
  have wb1 : w.heap.size ≤ b1 := by omega
  have l1 := P1.lt
  replace P1 := Lib.hid P1; replace F1 := Lib.hid F1; replace RE := Lib.hid RE; replace hR := Lib.hid hR; replace hV := Lib.hid hV; replace hst := Lib.hid hst; replace hev := Lib.hid hev; replace hrl := Lib.hid hrl; replace CH := Lib.hid CH; replace hn := Lib.hid hn; replace hnI := Lib.hid hnI; replace hm := Lib.hid hm; replace hmI := Lib.hid hmI
  go_enter Try.func73, Try.ntmps73
  go_wp2_with fail
  refine RE.out.mono ?_
  rintro e w3 ⟨b, R, rfl, hB, hb, hRi, f3⟩
  rw [hn.out] at hB ⊢
  have F3 := F1.out.trans f3
  have P3 := f3.pt P1.out (by simp)
  have P3' := P3
  have l3 := P3.lt
  have lb := hB.lt
  have s3 := f3.size
  replace f3 := Lib.hid f3; replace F3 := Lib.hid F3; replace P3 := Lib.hid P3; replace hB := Lib.hid hB; replace hRi := Lib.hid hRi
  clear k1 hw1 hb1
  go_wp2_with fail
  go_loopg [3, 5] (n + 1) (fun k v3 v5 wr => ∃ i : Nat, i ≤ n ∧ k + i = n + 1 ∧ v5 = .int .i64 i ∧ RmI T w3.heap.size w3 0 wr v3 (rmutTo T i))
  case atStart => exact ⟨0, by omega, by omega, rfl, [], none, rfl, TsI.nil _ _, Fr.refl _ _, by simp⟩
  case round =>
    obtain ⟨i, hi, hk, rfl, hI⟩ := hrel
    obtain ⟨wi, rfl⟩ : ∃ x : World, x = wr := ⟨_, rfl⟩
    obtain ⟨gi, rfl⟩ : ∃ g : Nat, g = gk := ⟨_, rfl⟩
    have hF : Fr [] w3 wi := hI.frw
    have k1 := (hF.pt P3.out (by simp)).cell
    rw [hnI.out, hmI.out] at k1
    by_cases hlt : i < n
    · have hltI : (i : Int) < n := by omega
      have hRi' := hRi.out i (by have := hnI.out; omega)
      have hsR : i < T.rows.length := by have := hrl.out; have := hnI.out; omega
      have hsRI : (i : Int) < T.rows.length := by omega
      obtain ⟨oR, cR, rfl, hlR⟩ := hR.out
      obtain ⟨BB, off, u, rfl, hBB, hcB, o2, cap2, rfl, hu⟩ := hlR i hsR
      obtain ⟨row, hrow⟩ : ∃ row, T.rows[i] = row := ⟨_, rfl⟩
      have hrow2 : T.rows.getD i [] = row := by rw [List.getD_eq_getElem?_getD, List.getElem?_eq_getElem hsR, hrow]; rfl
      have hrlen : row.length = m := by have := hV.out.row _ (List.getElem_mem hsR); rw [hrow] at this; have := hmI.out; omega
      have hcells := hV.out.cell _ (List.getElem_mem hsR)
      rw [hrow] at hu hcB hcells
      have hsc := rmutTo_succ T i row hrow2
      have hln := rmutTo_len hV.out i (by omega)
      obtain ⟨Q, hQ⟩ : ∃ q : Bool, q = R i := ⟨_, rfl⟩
      obtain ⟨ML, hML⟩ : ∃ x, rmutTo T i = x := ⟨_, rfl⟩
      rw [hML] at hI hsc hln
      have hsc2 : rmutTo T (i + 1) = ML ++ if Q = true then mutRows T i 0 row else [] := by
        rw [hsc]; congr 1
        by_cases h : (i : Int) ∈ orderT T
        · rw [if_pos h, if_pos (by rw [hQ]; exact hRi'.mpr h)]
        · rw [if_neg h, if_neg (by rw [hQ]; exact fun e => h (hRi'.mp e))]
      replace hI := Lib.hid hI; replace hF := Lib.hid hF; replace hu := Lib.hid hu; replace hsc := Lib.hid hsc; replace hsc2 := Lib.hid hsc2; replace hrow := Lib.hid hrow; replace hrow2 := Lib.hid hrow2; replace hML := Lib.hid hML; replace hcB := Lib.hid hcB; replace hlR := Lib.hid hlR; replace hRi' := Lib.hid hRi'; replace hQ := Lib.hid hQ; replace hcells := Lib.hid hcells
      go_wp2_with fail
      clear k1
      go_loopg [3, 6] (m + 1) (fun k v3 v6 wr => ∃ j : Nat, j ≤ m ∧ k + j = m + 1 ∧ v6 = .int .i64 j ∧ RmI T w3.heap.size w3 0 wr v3 (ML ++ if Q = true then mutRows T i 0 (row.take j) else []))
      case atStart => exact ⟨0, by omega, by omega, rfl, by simpa [mutRows] using hI.out⟩
      clear hI hF
      case round =>
        obtain ⟨j, hj, hk2, rfl, hI⟩ := hrel
        obtain ⟨wj, rfl⟩ : ∃ x : World, x = wr := ⟨_, rfl⟩
        obtain ⟨gj, rfl⟩ : ∃ g : Nat, g = gk := ⟨_, rfl⟩
        have hF : Fr [] w3 wj := hI.frw
        have k1 := (hF.pt P3.out (by simp)).cell
        rw [hnI.out, hmI.out] at k1
        by_cases hjl : j < m
        · have hjlI : (j : Int) < m := by omega
          have c3 := (hF.pt hB.out (by simp)).cell i
          rw [bools_get _ _ _ hlt, ← hQ.out] at c3
          have hjr : j < row.length := by omega
          have hjrI : (j : Int) < row.length := by omega
          obtain ⟨B2, off2, rfl, hB2, a1, a2⟩ := hu.out j hjr
          have FW := F3.out.trans hF
          have c1 := FW.cell (p := ⟨BB, off + i, none⟩) hBB (by simp)
          rw [hcB.out] at c1
          have c2 := FW.cell (p := ⟨B2, off2 + j * 2, none⟩) hB2 (by simp)
          rw [a1] at c2
          have c4 := FW.cell (p := ⟨B2, off2 + j * 2 + 1, none⟩) hB2 (by simp)
          rw [a2] at c4
          have htk := mutRows_take T i row j hjr
          have hce := hcells.out _ (List.getElem_mem hjr)
          have hall := mIn_all T ML i row j hjr
          have hpl := mutRows_len hV.out i (row.take j) 0
          have htl : (row.take j).length ≤ 12 := by rw [List.length_take]; omega
          obtain ⟨⟨x1, x2⟩, hx⟩ : ∃ x, row[j] = x := ⟨_, rfl⟩
          rw [hx] at c2 c4 htk hce
          dsimp only at c2 c4 hce
          obtain ⟨hc1, hc2, hc4, hc5, hc6⟩ := hce
          obtain ⟨w4, hw4⟩ : ∃ x, wj.alloc (.cells #[.int .i64 x1, .int .i64 x2] RRow) = x := ⟨_, rfl⟩
          have P4 := Pt.newA wj RRow #[.int .i64 x1, .int .i64 x2]
          rw [hw4] at P4
          have F4 : Fr [] wj w4 := by rw [← hw4]; exact (Fr.refl [] wj).alloc _
          obtain ⟨b4, hb4⟩ : ∃ x, wj.heap.size = x := ⟨_, rfl⟩
          rw [hb4] at P4
          have k4 := P4.cell
          have I4 := hI.fr F4
          have I4x := (hI.avoid (Y := b4) (by omega)).fr F4
          have G4 := hF.trans F4
          have s4 := G4.size
          have c34 := (G4.pt hB.out (by simp)).cell i
          rw [bools_get _ _ _ hlt, ← hQ.out] at c34
          clear a1 a2
          cases Q
          · as_aux_lemma =>
            rw [if_neg (by simp)] at I4
            have hI2 : RmI T w3.heap.size w3 0 w4 u3 (ML ++ if false = true then mutRows T i 0 (row.take (j + 1)) else []) := by rw [if_neg (by simp)]; exact I4
            replace hI := Lib.hid hI; replace hI2 := Lib.hid hI2; replace hF := Lib.hid hF; replace FW := Lib.hid FW; replace htk := Lib.hid htk; replace hall := Lib.hid hall; replace hpl := Lib.hid hpl; replace hx := Lib.hid hx; replace P4 := Lib.hid P4; replace F4 := Lib.hid F4; replace I4 := Lib.hid I4; replace I4x := Lib.hid I4x; replace G4 := Lib.hid G4; replace hc6 := Lib.hid hc6
            go_wp2_with fail
            go_roundg (gj - 1)
            case measure => omega
            case rel => exact ⟨j + 1, by omega, by omega, by go_num, hI2.out⟩
          · rw [if_pos rfl] at I4
            by_cases hneg : x1 < 0
            · as_aux_lemma =>
              have hro : mutRow T i j (x1, x2) = [] := by unfold mutRow; rw [if_pos hneg]
              rw [hro, List.append_nil] at htk
              have hI2 : RmI T w3.heap.size w3 0 w4 u3 (ML ++ if true = true then mutRows T i 0 (row.take (j + 1)) else []) := by rw [if_pos rfl, htk]; exact I4
              replace hI := Lib.hid hI; replace hI2 := Lib.hid hI2; replace hF := Lib.hid hF; replace FW := Lib.hid FW; replace htk := Lib.hid htk; replace hall := Lib.hid hall; replace hpl := Lib.hid hpl; replace hx := Lib.hid hx; replace P4 := Lib.hid P4; replace F4 := Lib.hid F4; replace I4 := Lib.hid I4; replace I4x := Lib.hid I4x; replace G4 := Lib.hid G4; replace hc6 := Lib.hid hc6; replace hro := Lib.hid hro
              go_wp2_with fail
              go_roundg (gj - 1)
              case measure => omega
              case rel => exact ⟨j + 1, by omega, by omega, by go_num, hI2.out⟩
            · have hge : 0 ≤ x1 := by omega
              have hall2 := hall (x1, x2) hx hge
              rw [hn.out] at hall2
              have hst' := hnI.out
              have hev' := hmI.out
              have YC := CH.out w4 (F3.out.trans G4) ((i : Int), (j : Int), (x1, outM x2)) ⟨by show (0 : Int) ≤ (i : Int); omega, by show (i : Int) < T.st; omega, by show (0 : Int) ≤ (j : Int); omega, by show (j : Int) < T.ev; omega, hge, hc2, by dsimp only; unfold outM; split <;> omega, by dsimp only; unfold outM; split <;> omega⟩
              have YM : ∀ W, Fr [] w W → ∀ c : Nat, c < n → Calls Try.prog 93 #[.agg #[.int .i64 T.st, .int .i64 T.ev, .int .i64 T.sr, .slice (some ⟨BB, off, none⟩) T.rows.length cR], .int .i64 (i : Int), .int .i64 (j : Int), .agg #[.int .i64 (c : Int), .int .i64 x2]] W fun e w' => ∃ rv, e = .returned (.agg #[.int .i64 T.st, .int .i64 T.ev, .int .i64 T.sr, rv]) ∧ RInB (fun b => W.heap.size ≤ b) w' rv (T.chg ((i : Int), (j : Int), ((c : Int), x2))).rows ∧ Fr [] W w' := fun W f c hc =>
                CH.out W f ((i : Int), (j : Int), ((c : Int), x2)) ⟨by show (0 : Int) ≤ (i : Int); omega, by show (i : Int) < T.st; omega, by show (0 : Int) ≤ (j : Int); omega, by show (j : Int) < T.ev; omega, by show (0 : Int) ≤ (c : Int); omega, by show (c : Int) < T.st; omega, hc4, hc5⟩
              clear hst' hev'
              obtain ⟨PL, hPL⟩ : ∃ y, ML ++ mutRows T i 0 (row.take j) = y := ⟨_, rfl⟩
              rw [if_pos rfl, hPL] at I4x
              rw [hPL] at I4 hall2
              have hPn : PL.length ≤ 12000 := by rw [← hPL, List.length_append]; omega
              have hm0 := mIn_zero T PL i j (x1, x2)
              have hms := fun c => mIn_succ T PL i j (x1, x2) c
              have hml := fun c => mIn_len T PL i j (x1, x2) c
              obtain ⟨rp, hrp⟩ : ∃ y, (x1, x2) = y := ⟨_, rfl⟩
              have hrp1 : rp.1 = x1 := by rw [← hrp]
              have hrp2 : rp.2 = x2 := by rw [← hrp]
              rw [hrp] at hm0 hall2
              simp only [hrp] at hms hml
              obtain ⟨ox, hox⟩ : ∃ y, outM x2 = y := ⟨_, rfl⟩
              have hm0' : mIn T PL i j rp 0 = PL ++ [((i : Int), (j : Int), (x1, ox))] := by rw [hm0, hrp1, hrp2, hox]
              dsimp only at YC
              rw [hox] at YC
              have k14 := (G4.pt P3.out (by simp)).cell
              rw [hnI.out, hmI.out] at k14
              rw [hnI.out, hmI.out] at YC
              have YM' := YM
              rw [hnI.out, hmI.out] at YM'
              have l4 := P4.lt
              replace hI := Lib.hid hI; replace hF := Lib.hid hF; replace FW := Lib.hid FW; replace htk := Lib.hid htk; replace hall := Lib.hid hall; replace hpl := Lib.hid hpl; replace hx := Lib.hid hx; replace P4 := Lib.hid P4; replace F4 := Lib.hid F4; replace I4 := Lib.hid I4; replace I4x := Lib.hid I4x; replace G4 := Lib.hid G4; replace hc6 := Lib.hid hc6; replace hall2 := Lib.hid hall2; replace YC := Lib.hid YC; replace YM := Lib.hid YM; replace YM' := Lib.hid YM'; replace hPL := Lib.hid hPL; replace hm0 := Lib.hid hm0; replace hm0' := Lib.hid hm0'; replace hms := Lib.hid hms; replace hml := Lib.hid hml; replace hrp := Lib.hid hrp; replace hrp1 := Lib.hid hrp1; replace hrp2 := Lib.hid hrp2
              by_cases h9 : x2 = 999
              all_goals
                have hoy : ox = if x2 = 999 then 998 else x2 + 1 := by rw [← hox]; rfl
                clear hox
                first
                | (rw [if_pos h9] at hoy; subst hoy; subst h9)
                | (rw [if_neg h9] at hoy; subst hoy; have h9b : (x2 == 999) = false := by simpa using h9)
                go_wp2_with fail
                refine YC.out.mono ?_
                rintro e w5 ⟨rv5, rfl, hR5, f5⟩
                obtain ⟨orv, nrv, crv, hrv⟩ := hR5.shape
                subst hrv
                obtain ⟨v6, w6, happ, I6, hk6⟩ := I4x.out.add l4 (by omega) (fun z hz => hz) (by omega) f5 _ _ hR5
                rw [hnI.out, hmI.out] at happ
                rw [← hm0'.out] at I6
                have G6 := I6.frw
                obtain ⟨o4, c4', hv4⟩ := I4x.out.len
                subst hv4
                obtain ⟨o6, c6, hv6⟩ := I6.len
                obtain ⟨n6, hn6⟩ : ∃ y, (mIn T PL i j rp 0).length = y := ⟨_, rfl⟩
                rw [hn6] at hv6
                subst hv6
                have p14 := (G6.pt P3.out (by simp))
                have k16 := p14.cell
                rw [hnI.out, hmI.out] at k16
                have p46 := hk6 _ _ P4.out
                have k46 := p46.cell
                replace happ := Lib.hid happ; replace I6 := Lib.hid I6; replace hk6 := Lib.hid hk6; replace hn6 := Lib.hid hn6; replace p14 := Lib.hid p14; replace p46 := Lib.hid p46; replace f5 := Lib.hid f5; replace hR5 := Lib.hid hR5; replace G6 := Lib.hid G6
                clear k1 k4 k14 c3 c34 c1 c2 c4 hw4 hb4
                go_wp2_with (first | (at_builtin; refine wpList_append_run _ rfl _ _ _ rfl rfl rfl happ.out ?_))
                clear k16 k46
                go_loopg [3, 9] (n + 1) (fun k v3 v9 wr => ∃ c : Nat, c ≤ n ∧ k + c = n + 1 ∧ v9 = .int .i64 c ∧ RmI T w3.heap.size w3 b4 wr v3 (mIn T PL i j rp c) ∧ Pt wr b4 RRow [.int .i64 x1, .int .i64 _])
                case atStart => exact ⟨0, by omega, by omega, rfl, I6.out, p46.out⟩
                clear I6 p46
                case round =>
                  obtain ⟨c, hc, hk3, rfl, hI, hp4⟩ := hrel
                  obtain ⟨wc, rfl⟩ : ∃ x : World, x = wr := ⟨_, rfl⟩
                  have hF : Fr [] w3 wc := hI.frw
                  have k1 := (hF.pt P3.out (by simp)).cell
                  rw [hnI.out, hmI.out] at k1
                  have k4 := hp4.cell
                  have l4' := hp4.lt
                  have s5 := hF.size
                  by_cases hcn : c < n
                  · have hcnI : (c : Int) < n := by omega
                    have hls := hms.out c
                    have hll := hml.out c
                    by_cases hcx : (c : Int) = x1
                    · as_aux_lemma =>
                      rw [if_pos hcx, List.append_nil] at hls
                      rw [← hls] at hI
                      have hcb : ((c : Int) != x1) = false := by simp [hcx]
                      replace hI := Lib.hid hI; replace hls := Lib.hid hls; replace hF := Lib.hid hF; replace hp4 := Lib.hid hp4; replace hcx := Lib.hid hcx
                      go_wp2_with fail
                      go_roundg (gk - 1)
                      case measure => omega
                      case rel => exact ⟨c + 1, by omega, by omega, by go_num, hI.out, hp4.out⟩
                    · as_aux_lemma =>
                      rw [if_neg hcx] at hls
                      have YC6 := YM'.out wc (F3.out.trans hF) c hcn
                      have hcb : ((c : Int) != x1) = true := by simp [hcx]
                      have hI' := hI
                      replace hI := Lib.hid hI; replace hls := Lib.hid hls; replace hF := Lib.hid hF; replace hp4 := Lib.hid hp4; replace hcx := Lib.hid hcx; replace YC6 := Lib.hid YC6
                      go_wp2_with fail
                      refine YC6.out.mono ?_
                      rintro e w7 ⟨rv7, rfl, hR7, f7⟩
                      obtain ⟨orv7, nrv7, crv7, hrv7⟩ := hR7.shape
                      subst hrv7
                      obtain ⟨v8, w8, happ8, I8, hk8⟩ := hI'.add l4' (by omega) (fun z hz => hz) (by omega) f7 _ _ hR7
                      rw [hnI.out, hmI.out] at happ8
                      rw [← hls.out] at I8
                      have p48 := hk8 _ _ hp4.out
                      obtain ⟨o9, c9, hv9⟩ := hI'.len
                      obtain ⟨n9, hn9⟩ : ∃ y, (mIn T PL i j rp c).length = y := ⟨_, rfl⟩
                      rw [hn9] at hv9
                      subst hv9
                      replace happ8 := Lib.hid happ8; replace I8 := Lib.hid I8; replace hk8 := Lib.hid hk8; replace p48 := Lib.hid p48; replace f7 := Lib.hid f7; replace hR7 := Lib.hid hR7; replace hI' := Lib.hid hI'; replace hn9 := Lib.hid hn9
                      go_wp2_with (first | (at_builtin; refine wpList_append_run _ rfl _ _ _ rfl rfl rfl happ8.out ?_))
                      go_roundg (gk - 1)
                      case measure => omega
                      case rel => exact ⟨c + 1, by omega, by omega, by go_num, I8.out, p48.out⟩
                  · as_aux_lemma =>
                    have hcnI : ¬ (c : Int) < n := by omega
                    obtain rfl : c = n := by omega
                    rw [hall2.out] at hI
                    have hI2 : RmI T w3.heap.size w3 0 wc u3 (ML ++ if true = true then mutRows T i 0 (row.take (j + 1)) else []) := by rw [if_pos rfl]; exact hI.low (by omega)
                    replace hI := Lib.hid hI; replace hI2 := Lib.hid hI2; replace hF := Lib.hid hF; replace hp4 := Lib.hid hp4
                    go_wp2_with fail
                    go_roundg (gj - 1)
                    case measure => omega
                    case rel => exact ⟨j + 1, by omega, by omega, by go_num, hI2.out⟩
        · as_aux_lemma =>
          have hjlI : ¬ (j : Int) < m := by omega
          have htk : row.take j = row := List.take_of_length_le (by omega)
          rw [htk, ← hsc2.out] at hI
          replace hI := Lib.hid hI; replace hF := Lib.hid hF
          go_wp2_with fail
          go_roundg (gi - 1)
          case measure => omega
          case rel => exact ⟨i + 1, by omega, by omega, by go_num, hI.out⟩
    · as_aux_lemma =>
      have hltI : ¬ (i : Int) < n := by omega
      obtain rfl : i = n := by omega
      have hall := rmutTo_all T
      rw [hn.out] at hall
      rw [hall] at hI
      obtain ⟨L, bo, h1, h2, h3, h4⟩ := hI
      have s13 := F3.out.size
      have GO : RmR T w (.returned u3) wi := ⟨_, L, bo, rfl, h1, ⟨h2.row, fun p hp => (h2.each p hp).fr (Fr.refl [] wi) (fun b _ hq => ⟨by simp, by show w.heap.size ≤ b; have := hq.1; omega, hq.2⟩), fun z hz => by have := h2.qo z hz; show w.heap.size ≤ z; omega⟩, F3.out.trans h3⟩
      replace hF := Lib.hid hF; replace GO := Lib.hid GO; replace hall := Lib.hid hall; replace h2 := Lib.hid h2; replace h3 := Lib.hid h3; replace h4 := Lib.hid h4; replace h1 := Lib.hid h1
      go_wp2_with fail
      go_ret
      exact GO.out
end Go.Proofs.Ytnggimkkjdipmaa
