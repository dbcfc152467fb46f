import Derived.Test.YtkfkkglodjehpaaTB10
import Derived.Deep.Cut
namespace Go.Proofs.Ytkfkkglodjehpaa
open Go.RowKit
set_option linter.unusedVariables false
set_option linter.unusedSimpArgs false
set_option maxHeartbeats 16000000
set_option maxRecDepth 20000
/-- To's work, half done. -/
structure ToI (w : World) (b1 b2 b3 : Nat) (st ev sr : Int) (v : Value) (rows : List (List (Int × Int))) (wr : World) (i : Nat) (r' : Value) (us : List Value) (bo : Option Nat) : Prop where
  p1 : Pt wr b1 TTab [.int .i64 st, .int .i64 ev, .int .i64 sr, v]
  p2 : Pt wr b2 RTab [.int .i64 0, .int .i64 0, .int .i64 0, .slice none 0 0]
  p3 : Pt wr b3 RTab [.int .i64 st, .int .i64 ev, .int .i64 sr, r']
  row : Row 1 wr r' us.length us bo
  len : us.length = i
  out : ∀ z, bo = some z → b3 < z
  pin : ∀ k (h : k < us.length) (h2 : k < rows.length), PInB (fun b => b3 < b ∧ b ∉ bo.toList) wr us[k] rows[k]
  fr : Fr [] w wr
theorem ToI.next {w : World} {b1 b2 b3 : Nat} {st ev sr : Int} {v : Value} {rows : List (List (Int × Int))} {wo wr w6 : World} {i : Nat} {r' v5 v6 : Value} {us : List Value} {bo bo2 bo6 : Option Nat}
    (h : ToI w b1 b2 b3 st ev sr v rows wo i r' us bo) (hi : i < rows.length) (h12 : b1 < b2) (h23 : b2 < b3) (hw : w.heap.size ≤ b1) (hF : Fr [] wo wr)
    (hrw : Row 2 wr v5 (rows[i]).length (pcells rows[i]) bo2) (hbo2 : ∀ z, bo2 = some z → wo.heap.size ≤ z)
    (hr6 : Row 1 w6 v6 (us ++ [v5]).length (us ++ [v5]) bo6) (hb6 : bo6 = bo ∨ ∃ z, bo6 = some z ∧ wr.heap.size ≤ z) (f6 : Fr bo.toList wr w6) :
    ToI w b1 b2 b3 st ev sr v rows (w6.setCell ⟨b3, 3, none⟩ v6) (i + 1) v6 (us ++ [v5]) bo6 := by
  have l3 := h.p3.lt
  have hsz := hF.size
  have fs : Fr [b3] w6 (w6.setCell ⟨b3, 3, none⟩ v6) := (Fr.refl _ _).setCell (by simp) _
  have FA : Fr (b3 :: bo.toList) wo (w6.setCell ⟨b3, 3, none⟩ v6) := ((hF.mono (by simp)).trans (f6.mono (fun x hx => by simp [hx]))).trans (fs.mono (by simp))
  have hbm : ∀ z ∈ bo.toList, b3 < z ∧ z < wo.heap.size := fun z hz => by
    have hz' : bo = some z := by simpa using hz
    have := h.row
    rw [hz'] at this
    exact ⟨h.out z hz', this.lt⟩
  have hb6' : ∀ z, bo6 = some z → b3 < z := fun z hz => by
    rcases hb6 with e | ⟨z', e, h2⟩
    · exact h.out z (by rw [← e]; exact hz)
    · rw [hz] at e; cases e; omega
  have hnew : ∀ b, b < wr.heap.size → b ∉ bo.toList → b ∉ bo6.toList := fun b hb hn hm => by
    have hm' : bo6 = some b := by simpa using hm
    rcases hb6 with e | ⟨z', e, h2⟩
    · exact hn (by rw [← e]; exact hm)
    · rw [hm'] at e; cases e; omega
  refine ⟨FA.pt h.p1 (fun hm => ?_), FA.pt h.p2 (fun hm => ?_), (f6.pt (hF.pt h.p3 (by simp)) (fun hm => ?_)).set' rfl, hr6.fr fs (fun z hz hm => ?_), by rw [List.length_append, h.len]; rfl, hb6', fun k hk hk2 => ?_, ?_⟩
  · rcases List.mem_cons.mp hm with e | e
    · omega
    · have := (hbm _ e).1; omega
  · rcases List.mem_cons.mp hm with e | e
    · omega
    · have := (hbm _ e).1; omega
  · have := (hbm _ hm).1; omega
  · have := hb6' z hz
    simp at hm; omega
  · by_cases e : k < us.length
    · rw [List.getElem_append_left e]
      refine (h.pin k e hk2).fr FA (fun b hb hq => ⟨fun hm => ?_, hq.1, hnew b (by omega) hq.2⟩)
      rcases List.mem_cons.mp hm with e2 | e2
      · omega
      · exact hq.2 e2
    · have hki : k = us.length := by simp at hk; omega
      have hki2 : k = i := by rw [hki, h.len]
      subst hki2
      rw [List.getElem_append_right (by omega)]
      have : (us ++ [v5])[k]'hk = v5 := by
        rw [List.getElem_append_right (by omega)]; simp [hki]
      have e5 : [v5][k - us.length]'(by simp at hk; simp; omega) = v5 := by simp
      rw [e5]
      have hp : PInB (fun b => wo.heap.size ≤ b) wr v5 rows[k] := hrw.pinb hbo2
      have FB : Fr (b3 :: bo.toList) wr (w6.setCell ⟨b3, 3, none⟩ v6) := (f6.mono (fun x hx => by simp [hx])).trans (fs.mono (by simp))
      refine hp.fr FB (fun b hb hq => ⟨fun hm => ?_, by omega, hnew b hb (fun hm => ?_)⟩)
      · rcases List.mem_cons.mp hm with e2 | e2
        · omega
        · have := (hbm _ e2).2; omega
      · have := (hbm _ hm).2; omega
  · refine h.fr.step FA (fun x hx => .inr ?_)
    rcases List.mem_cons.mp hx with e | e
    · omega
    · have := (hbm _ e).1; omega
theorem ToI.rin {w : World} {b1 b2 b3 : Nat} {st ev sr : Int} {v : Value} {rows : List (List (Int × Int))} {wr w' : World} {r' : Value} {us : List Value} {bo : Option Nat}
    (h : ToI w b1 b2 b3 st ev sr v rows wr rows.length r' us bo) (h23 : b2 < b3) (hf : Fr [b2] wr w') : RIn w' r' rows := by
  have hr := h.row.fr hf (fun z hz hm => by have := h.out z hz; simp at hm; omega)
  have hlen := h.len
  have hp : ∀ k (hk : k < us.length) (hk2 : k < rows.length), PIn w' us[k] rows[k] := fun k hk hk2 => ((h.pin k hk hk2).fr (q' := fun _ => True) hf (fun b _ hq => ⟨fun hm => by have := hq.1; simp at hm; omega, trivial⟩)).pin
  rcases hr with ⟨_, h2, _, o, rfl⟩ | ⟨b, off, cap, hb, rfl, h3, h4, _, _, h7⟩
  · exact ⟨o, 0, by rw [← hlen, h2], fun i hi => by omega⟩
  · refine ⟨_, cap, by rw [hlen], fun i hi => ⟨b, off, us[i]'(by omega), rfl, h4, ?_, hp i (by omega) hi⟩⟩
    rw [h7 i (by omega), List.getElem?_eq_getElem (by omega)]
def RInB (q : Nat → Prop) (w : World) (v : Value) (l : List (List (Int × Int))) : Prop := ∃ o cap, v = .slice o l.length cap ∧ ∀ i (h : i < l.length), ∃ b off u, o = some ⟨b, off, none⟩ ∧ b < w.heap.size ∧ q b ∧ w.cell? ⟨b, off + i, none⟩ = some u ∧ PInB q w u l[i]
theorem RInB.rin {q : Nat → Prop} {w : World} {v : Value} {l : List (List (Int × Int))} (h : RInB q w v l) : RIn w v l := by
  obtain ⟨o, cap, h1, h2⟩ := h
  refine ⟨o, cap, h1, fun i hi => ?_⟩
  obtain ⟨b, off, u, e, hb, hq, hc, hd⟩ := h2 i hi
  exact ⟨b, off, u, e, hb, hc, hd.pin⟩
theorem RInB.fr {q q' : Nat → Prop} {w w' : World} {v : Value} {l : List (List (Int × Int))} (h : RInB q w v l) {ex : List Nat} (hf : Fr ex w w') (hx : ∀ b, b < w.heap.size → q b → b ∉ ex ∧ q' b) : RInB q' w' v l := by
  obtain ⟨o, cap, h1, h2⟩ := h
  refine ⟨o, cap, h1, fun i hi => ?_⟩
  obtain ⟨b, off, u, e, hb, hq, hc, hd⟩ := h2 i hi
  exact ⟨b, off, u, e, Nat.lt_of_lt_of_le hb hf.size, (hx b hb hq).2, by rw [hf.cell (p := ⟨b, off + i, none⟩) hb (hx b hb hq).1]; exact hc, hd.fr hf hx⟩
theorem ToI.rinb {w : World} {b1 b2 b3 : Nat} {st ev sr : Int} {v : Value} {rows : List (List (Int × Int))} {wr w' : World} {r' : Value} {us : List Value} {bo : Option Nat}
    (h : ToI w b1 b2 b3 st ev sr v rows wr rows.length r' us bo) (h23 : b2 < b3) (hf : Fr [b2] wr w') : RInB (fun b => b3 < b) w' r' rows := by
  have hr := h.row.fr hf (fun z hz hm => by have := h.out z hz; simp at hm; omega)
  have hlen := h.len
  have hp : ∀ k (hk : k < us.length) (hk2 : k < rows.length), PInB (fun b => b3 < b) w' us[k] rows[k] := fun k hk hk2 => ((h.pin k hk hk2).fr hf (fun b _ hq => ⟨fun hm => by have := hq.1; simp at hm; omega, hq.1⟩))
  rcases hr with ⟨_, h2, _, o, rfl⟩ | ⟨b, off, cap, hb, rfl, h3, h4, _, _, h7⟩
  · exact ⟨o, 0, by rw [← hlen, h2], fun i hi => by omega⟩
  · refine ⟨_, cap, by rw [hlen], fun i hi => ⟨b, off, us[i]'(by omega), rfl, h4, h.out b hb, ?_, hp i (by omega) hi⟩⟩
    rw [h7 i (by omega), List.getElem?_eq_getElem (by omega)]
/-- What a table in memory weighs, at most. -/
def Fits (T : Tb) : Prop := T.rows.length * 24 ≤ 140737488351232 ∧ ∀ l ∈ T.rows, l.length * 16 ≤ 140737488351232
theorem to_fresh (T : Tb) (v : Value) (w : World) (hT : TIn w v T) (hz : Fits T) :
    Calls Try.prog 8 #[v] w fun e w' => ∃ r', e = .returned (.agg #[.int .i64 T.st, .int .i64 T.ev, .int .i64 T.sr, r']) ∧ RInB (fun b => w.heap.size ≤ b) w' r' T.rows ∧ Fr [] w w' := by
  obtain ⟨r, rfl, hR⟩ := hT
  obtain ⟨st, ev, sr, rows⟩ := T
  obtain ⟨hz1, hz2⟩ := hz
  dsimp only [Tb.val] at hR hz1 hz2 ⊢
  obtain ⟨o, cap, rfl, hl⟩ := hR
  obtain ⟨w1, hw1⟩ : ∃ x, w.alloc (.cells #[.int .i64 st, .int .i64 ev, .int .i64 sr, .slice o rows.length cap] TTab) = x := ⟨_, rfl⟩
  have P1 := Pt.newA w TTab #[.int .i64 st, .int .i64 ev, .int .i64 sr, .slice o rows.length cap]
  rw [hw1] at P1
  have F1 : Fr [] w w1 := by rw [← hw1]; exact (Fr.refl [] w).alloc _
  obtain ⟨b1, hb1⟩ : ∃ x, w.heap.size = x := ⟨_, rfl⟩
  rw [hb1] at P1
  obtain ⟨w2, hw2⟩ : ∃ x, w1.alloc (.cells #[.int .i64 0, .int .i64 0, .int .i64 0, .slice none 0 0] RTab) = x := ⟨_, rfl⟩
  have P2 := Pt.newA w1 RTab #[.int .i64 0, .int .i64 0, .int .i64 0, .slice none 0 0]
  rw [hw2] at P2
  have F2 : Fr [] w1 w2 := by rw [← hw2]; exact (Fr.refl [] w1).alloc _
  obtain ⟨b2, hb2⟩ : ∃ x, w1.heap.size = x := ⟨_, rfl⟩
  rw [hb2] at P2
  obtain ⟨w3, hw3⟩ : ∃ x, w2.alloc (.cells #[.int .i64 st, .int .i64 ev, .int .i64 sr, .slice none 0 0] RTab) = x := ⟨_, rfl⟩
  have P3 := Pt.newA w2 RTab #[.int .i64 st, .int .i64 ev, .int .i64 sr, .slice none 0 0]
  rw [hw3] at P3
  have F3 : Fr [] w2 w3 := by rw [← hw3]; exact (Fr.refl [] w2).alloc _
  obtain ⟨b3, hb3⟩ : ∃ x, w2.heap.size = x := ⟨_, rfl⟩
  rw [hb3] at P3
  have k1 := (F2.pt P1 (by simp)).cell
  have PA1 := (F2.trans F3).pt P1 (by simp)
  have PA2 := F3.pt P2 (by simp)
  have l1 := P1.lt; have l2 := P2.lt; have l3 := P3.lt
  have FA := (F1.trans F2).trans F3
  have lt12 : b1 < b2 := by omega
  have lt23 : b2 < b3 := by omega
  have hwb : w.heap.size ≤ b1 := by omega
  have hb1' := Lib.hid hb1; have hb2' := Lib.hid hb2; have hb3' := Lib.hid hb3
  have hw3' := Lib.hid hw3
  clear hw3
  have HL := Lib.hid hl
  clear hl
  replace P1 := Lib.hid P1; replace P2 := Lib.hid P2; replace P3 := Lib.hid P3; replace PA1 := Lib.hid PA1; replace PA2 := Lib.hid PA2; replace F1 := Lib.hid F1; replace F2 := Lib.hid F2; replace F3 := Lib.hid F3; replace FA := Lib.hid FA; replace hz2 := Lib.hid hz2
  go_enter Try.func8, Try.ntmps8
  go_wp2_with fail
  rw [hw3'.out]
  have I0 : ToI w b1 b2 b3 st ev sr (.slice o rows.length cap) rows w3 0 (.slice none 0 0) [] none := ⟨PA1.out, PA2.out, P3.out, Row.nil 1 _ none, rfl, by simp, by simp, FA.out⟩
  replace I0 := Lib.hid I0
  clear k1
  go_loopg [4] (rows.length + 1) (fun k v wr => ∃ (i : Nat) (r' : Value) (us : List Value) (bo : Option Nat), i ≤ rows.length ∧ k + i = rows.length + 1 ∧ v = .int .i64 i ∧ ToI w b1 b2 b3 st ev sr (.slice o rows.length cap) rows wr i r' us bo)
  case atStart => exact ⟨0, _, _, _, by omega, by omega, rfl, I0.out⟩
  case round =>
    obtain ⟨i, r', us, bo, hi, hk, rfl, hI⟩ := hrel
    have kt := hI.p1.cell
    have HI := Lib.hid hI
    clear hI
    by_cases hlt : i < rows.length
    · have hltI : (i : Int) < rows.length := by omega
      obtain ⟨B, off, u, rfl, hB, hc, o2, cap2, rfl, hu⟩ := HL.out i hlt
      obtain ⟨row, hrow⟩ : ∃ row, rows[i] = row := ⟨_, rfl⟩
      have hzr := hz2.out _ (List.getElem_mem hlt)
      rw [hrow] at hu hzr hc
      obtain ⟨wo, rfl⟩ : ∃ wo : World, wo = wr := ⟨_, rfl⟩
      obtain ⟨gq, rfl⟩ : ∃ g : Nat, g = gk := ⟨_, rfl⟩
      have cB := HI.out.fr.cell (p := ⟨B, off + i, none⟩) hB (by simp)
      rw [hc] at cB
      have HC := Lib.hid hc
      have HU := Lib.hid hu
      have HR := Lib.hid hrow
      clear hc hu hrow
      go_wp2_with fail
      clear kt cB
      go_loopg [5, 6] (row.length + 1) (fun k v5 v6 wi => ∃ (j : Nat) (bo2 : Option Nat), j ≤ row.length ∧ k + j = row.length + 1 ∧ v6 = .int .i64 j ∧ Row 2 wi v5 (row.take j).length (pcells (row.take j)) bo2 ∧ (∀ z, bo2 = some z → wo.heap.size ≤ z) ∧ Fr [] wo wi)
      case atStart => exact ⟨0, none, by omega, by omega, rfl, Row.nil 2 _ none, by simp, Fr.refl _ _⟩
      case round =>
        obtain ⟨j, bo2, hj, hk2, rfl, hrw, hbo2, hF⟩ := hrel
        have FF := HI.out.fr.trans hF
        obtain ⟨wz, hwz⟩ : ∃ x, wr.drew = x := ⟨_, rfl⟩
        have Fz : Fr [] wr wz := by rw [← hwz]; exact (Fr.refl [] wr).drew
        have kt := (hF.pt HI.out.p1 (by simp)).cell
        have cB := FF.cell (p := ⟨B, off + i, none⟩) hB (by simp)
        rw [HC.out] at cB
        by_cases hltj : j < row.length
        · have hltJ : (j : Int) < row.length := by omega
          obtain ⟨B2, off2, rfl, hB2, ha, hb⟩ := HU.out j hltj
          obtain ⟨⟨x1, x2⟩, hx⟩ : ∃ x, row[j] = x := ⟨_, rfl⟩
          rw [hx] at ha hb
          dsimp only at ha hb
          have ktz := (Fz.pt (hF.pt HI.out.p1 (by simp)) (by simp)).cell
          have cBz := (FF.trans Fz).cell (p := ⟨B, off + i, none⟩) hB (by simp)
          rw [HC.out] at cBz
          have caz := (FF.trans Fz).cell (p := ⟨B2, off2 + j * 2, none⟩) hB2 (by simp)
          rw [ha] at caz
          have cbz := (FF.trans Fz).cell (p := ⟨B2, off2 + j * 2 + 1, none⟩) hB2 (by simp)
          rw [hb] at cbz
          have hjl : (row.take j).length = j := by rw [List.length_take]; omega
          obtain ⟨v', w5, bo3, happ, hrw5, hbo3, f5⟩ := (hrw.fr Fz (by simp)).oneRR (by rw [hjl]; omega) (x1, x2)
          rw [← hx, ← List.take_succ_eq_append_getElem hltj] at hrw5
          have hbo3' : ∀ z, bo3 = some z → wo.heap.size ≤ z := fun z hz => by
            rcases hbo3 with h | ⟨z', h, h2⟩
            · exact hbo2 z (by rw [← h]; exact hz)
            · rw [hz] at h; cases h
              have := hF.size; have := Fz.size
              omega
          have F5 : Fr [] wo w5 := (hF.trans Fz).step f5 (fun z hz => .inr (hbo2 z (by simpa using hz)))
          dsimp only at happ
          have hvl : ∃ oz cz, u5 = .slice oz (row.take j).length cz := hrw.len
          have KW : Hid (w5.cell? ⟨b1, 3, none⟩ = some (.slice (some ⟨B, off, none⟩) rows.length cap) ∧ w5.cell? ⟨B, off + i, none⟩ = some (.slice (some ⟨B2, off2, none⟩) row.length cap2) ∧ w5.cell? ⟨B2, off2 + j * 2, none⟩ = some (.int .i64 x1) ∧ w5.cell? ⟨B2, off2 + j * 2 + 1, none⟩ = some (.int .i64 x2)) :=
            ⟨(F5.pt HI.out.p1 (by simp)).cell 3, by rw [(HI.out.fr.trans F5).cell (p := ⟨B, off + i, none⟩) hB (by simp)]; exact HC.out, by rw [(HI.out.fr.trans F5).cell (p := ⟨B2, off2 + j * 2, none⟩) hB2 (by simp)]; exact ha, by rw [(HI.out.fr.trans F5).cell (p := ⟨B2, off2 + j * 2 + 1, none⟩) hB2 (by simp)]; exact hb⟩
          have ka := FF.cell (p := ⟨B2, off2 + j * 2, none⟩) hB2 (by simp)
          rw [ha] at ka
          have kb := FF.cell (p := ⟨B2, off2 + j * 2 + 1, none⟩) hB2 (by simp)
          rw [hb] at kb
          replace happ := Lib.hid happ; replace hrw5 := Lib.hid hrw5; replace hbo3 := Lib.hid hbo3; replace hbo3' := Lib.hid hbo3'; replace F5 := Lib.hid F5; replace hwz := Lib.hid hwz; replace hx := Lib.hid hx; replace hjl := Lib.hid hjl; replace hrw := Lib.hid hrw; replace hbo2 := Lib.hid hbo2; replace hF := Lib.hid hF; replace FF := Lib.hid FF; replace Fz := Lib.hid Fz; replace f5 := Lib.hid f5; replace hvl := Lib.hid hvl
          clear ha hb
          have happ' := happ.out
          rw [← hwz.out] at happ'
          obtain ⟨wb, hwb⟩ : ∃ n, wr.heap.size = n := ⟨_, rfl⟩
          rw [show wr.drew.heap.size = wb from hwb] at happ'
          obtain ⟨oz, cz, rfl⟩ := hvl.out
          rw [hjl.out, show wr.drew.alloc (.cells #[.int .i64 x1, .int .i64 x2] RRow) = (wr.alloc (.cells #[.int .i64 x1, .int .i64 x2] RRow)).drew from rfl] at happ'
          replace happ' := Lib.hid happ'
          go_upto_region 9 with fail
          clear ktz cBz caz cbz
          go_region_held3 (fun w' => w'.cell? ⟨b1, 3, none⟩ = some (.slice (some ⟨B, off, none⟩) rows.length cap) ∧ w'.cell? ⟨B, off + i, none⟩ = some (.slice (some ⟨B2, off2, none⟩) row.length cap2) ∧ w'.cell? ⟨B2, off2 + j * 2, none⟩ = some (.int .i64 x1) ∧ w'.cell? ⟨B2, off2 + j * 2 + 1, none⟩ = some (.int .i64 x2))
            (first | go_keep | exact KW.out)
            ((first
              | (refine step_append_run rfl _ _ _ rfl (v := .slice oz j cz) rfl (xv := .slice (some ⟨wb, 0, none⟩) 1 1) rfl happ'.out ?_)))
          go_wp2_with fail
          go_roundg (gk - 1)
          case measure => omega
          case rel => exact ⟨j + 1, bo3, by omega, by omega, by go_num, hrw5.out, hbo3'.out, F5.out⟩
        · have hltJ : ¬ (j : Int) < row.length := by omega
          have hjr : row.take j = row := List.take_of_length_le (by omega)
          rw [hjr] at hrw
          have hlen := HI.out.len
          obtain ⟨oz, cz, rfl⟩ := hrw.len
          obtain ⟨v6, w6, bo6, happ, hr6, hb6, f6⟩ := (HI.out.row.fr hF (by simp)).oneRRs (by rw [hlen]; omega) (.slice oz row.length cz) rfl
          obtain ⟨o6, c6, rfl⟩ := hr6.len
          have p3 := hF.pt HI.out.p3 (by simp)
          have c3 := p3.cell
          have hb3n : b3 ∉ bo.toList := fun hm => by have := HI.out.out b3 (by simpa using hm); omega
          have p36 := f6.pt p3 hb3n
          have c36 := p36.cell
          have z36 := p36.free
          have NX := HI.out.next hlt lt12 lt23 hwb hF (by rw [HR.out]; exact hrw) hbo2 hr6 hb6 f6
          simp only [List.length_append, List.length_cons, List.length_nil, Nat.zero_add] at NX happ
          replace NX := Lib.hid NX; replace happ := Lib.hid happ; replace hr6 := Lib.hid hr6; replace hb6 := Lib.hid hb6; replace f6 := Lib.hid f6; replace p3 := Lib.hid p3; replace p36 := Lib.hid p36; replace hb3n := Lib.hid hb3n; replace hlen := Lib.hid hlen; replace hrw := Lib.hid hrw; replace hjr := Lib.hid hjr; replace hbo2 := Lib.hid hbo2; replace hF := Lib.hid hF; replace FF := Lib.hid FF; replace Fz := Lib.hid Fz; replace hwz := Lib.hid hwz
          go_wp2_with (first | (at_builtin; refine wpList_append_run _ rfl _ _ _ rfl rfl rfl happ.out ?_))
          go_roundg (gq - 1)
          case measure => omega
          case rel => exact ⟨i + 1, _, _, _, by omega, by omega, by go_num, NX.out⟩
    · have hltI : ¬ (i : Int) < rows.length := by omega
      have hie : i = rows.length := by omega
      obtain ⟨oe, ce, rfl⟩ := HI.out.row.len
      have c2 := HI.out.p2.cell
      have z2 := HI.out.p2.free
      have c3 := HI.out.p3.cell
      subst hie
      have FE : Fr [b2] wr ((((wr.setCell ⟨b2, 0, none⟩ (.int .i64 st)).setCell ⟨b2, 1, none⟩ (.int .i64 ev)).setCell ⟨b2, 2, none⟩ (.int .i64 sr)).setCell ⟨b2, 3, none⟩ (.slice oe us.length ce)) :=
        ((((Fr.refl [b2] wr).setCell (by simp) _).setCell (by simp) _).setCell (by simp) _).setCell (by simp) _
      have RE := (HI.out.rinb lt23 FE).fr (Fr.refl [] _) (q' := fun b => w.heap.size ≤ b) (fun b _ hq => ⟨by simp, by omega⟩)
      have FF := HI.out.fr.step FE (by simp; omega)
      replace FE := Lib.hid FE; replace RE := Lib.hid RE; replace FF := Lib.hid FF
      go_wp2_with fail
      refine bodyPost_ret (v := .agg #[.int .i64 st, .int .i64 ev, .int .i64 sr, .slice oe us.length ce]) (by simp [results, Try.results8, go_sem, c2]) rfl ⟨_, rfl, (by have h9 := RE.out; rw [hb1'.out] at h9; exact h9), FF.out⟩
theorem to_any (T : Tb) (v : Value) (w : World) (hT : TIn w v T) (hz : Fits T) :
    Calls Try.prog 8 #[v] w fun e w' => ∃ v', e = .returned v' ∧ TIn w' v' T ∧ Fr [] w w' :=
  (to_fresh T v w hT hz).mono fun e w' ⟨r', h1, h2, h3⟩ => ⟨_, h1, ⟨r', rfl, h2.rin⟩, h3⟩
end Go.Proofs.Ytkfkkglodjehpaa
