import Derived.Test.YtehmfnpiidcbpaaGR5
namespace Go.Proofs.Ytehmfnpiidcbpaa
open Go.RowKit
set_option linter.unusedVariables false
set_option linter.unusedSimpArgs false
set_option maxHeartbeats 16000000
set_option maxRecDepth 100000
noncomputable def TRN : TypeId := 40
theorem uRNs : Try.prog.underlying 38 = some (.slice 40) := by kernel_rfl
noncomputable def iRN : TypeInfo := (Try.prog.info? 40).getD default
theorem infoRN : Try.prog.info? 40 = some iRN := by kernel_rfl
noncomputable def zRN : Value := iRN.zero.getD default
theorem bytesRN : iRN.bytes = 48 := by kernel_rfl
/-- One more constraint in a row of constraints. -/
theorem Row.oneRN {w : World} {v : Value} {cs : List Value} {k : Nat} {bo : Option Nat} (h : Row 4 w v k cs bo) (hn : (k + 1) * 48 ≤ 140737488355328) (a b c : Int) (s : Value) (hs : s.oneCell' = true) :
    ∃ v' w' bo', (Builtin.append_ #[38, 38] 38 #[v, .slice (some ⟨w.heap.size, 0, none⟩) 1 1]).run Try.prog (w.alloc (.cells #[.int .i64 a, .int .i64 b, .int .i64 c, s] 40)) = .ok v' w' ∧
      Row 4 w' v' (k + 1) (cs ++ [.int .i64 a, .int .i64 b, .int .i64 c, s]) bo' ∧ (bo' = bo ∨ ∃ z, bo' = some z ∧ w.heap.size ≤ z) ∧ Fr bo.toList w w' := by
  have f1 : Fr [] w (w.alloc (.cells #[.int .i64 a, .int .i64 b, .int .i64 c, s] 40)) := (Fr.refl [] w).alloc _
  have P1 := Pt.newA w 40 #[.int .i64 a, .int .i64 b, .int .i64 c, s]
  have h1 := h.fr f1 (by simp)
  have hsrc : Src Try.prog 4 38 (.slice (some ⟨w.heap.size, 0, none⟩) 1 1) 1 [.int .i64 a, .int .i64 b, .int .i64 c, s] (w.alloc (.cells #[.int .i64 a, .int .i64 b, .int .i64 c, s] 40)) := Src.ofSlice _ uRNs ⟨w.heap.size, 0, none⟩ 1 1 _ rfl (fun j u hu => by rw [Addr.add_lit, P1.cell, Nat.zero_add]; exact hu) (by intro u hu; simp at hu; rcases hu with rfl | rfl | rfl | rfl <;> first | rfl | exact hs)
  obtain ⟨v', w', bo', hrun, hr, hb, hf⟩ := h1.appendW (t := 38) (ty := 38) (e := 40) (i := iRN) (z := zRN) uRNs infoRN (by kernel_rfl) (by kernel_rfl) (by omega) (by kernel_rfl) hsrc (by omega) (by rw [bytesRN]; exact hn) (by omega)
  refine ⟨v', w', bo', hrun, hr, ?_, (f1.mono (by simp)).trans hf⟩
  rcases hb with hb | hb
  · exact .inl hb
  · exact .inr ⟨_, hb, f1.size⟩
theorem lcells_snoc (k0 : Value) (l : List (Int × Int)) (i : Nat) (h : i < l.length) (a b : Int) (hx : l[i] = (a, b)) : lcells k0 (l.take (i + 1)) = lcells k0 (l.take i) ++ [.int .i64 0, .int .i64 a, .int .i64 b, .slice none 0 0] := by
  rw [List.take_succ_eq_append_getElem h, lcells_app, hx]; simp
/-- As, half done. -/
structure AsI (w : World) (r0 b8 b4 b3 : Nat) (top : Nat) (l : List (Int × Int)) (i : Nat) (wr : World) (v : Value) (bo : Option Nat) : Prop where
  le : i ≤ l.length
  row : Row 4 wr v (i + 1) (lcells (.slice (some ⟨b8, 0, none⟩) 2 2) (l.take i)) bo
  out : ∀ z, bo = some z → z = b4 ∨ top ≤ z
  p0 : Pt wr r0 40 [.int .i64 0, .int .i64 0, .int .i64 0, .slice none 0 0]
  p8 : Pt wr b8 40 [.int .i64 4, .int .i64 0, .int .i64 0, .slice none 0 0, .int .i64 4, .int .i64 0, .int .i64 0, .slice none 0 0]
  p3 : Pt wr b3 40 [.int .i64 1, .int .i64 0, .int .i64 0, v]
  fr : Fr [] w wr
def AsR (l : List (Int × Int)) (w : World) (e : Ending) (w' : World) : Prop := ∃ s, e = .returned (.agg #[.int .i64 1, .int .i64 0, .int .i64 0, s]) ∧ NI w' (asN l) (.agg #[.int .i64 1, .int .i64 0, .int .i64 0, s]) ∧ Fr [] w w'
theorem AsI.put {w : World} {r0 b8 b4 b3 top : Nat} {l : List (Int × Int)} {i : Nat} {wr : World} {v : Value} {bo : Option Nat} (I : AsI w r0 b8 b4 b3 top l i wr v bo) (hlt : i < l.length) (hn : l.length ≤ 1000000) (hr : w.heap.size ≤ r0 ∧ r0 < b8 ∧ b8 < b4 ∧ b4 < b3 ∧ b3 < top) (htop : top ≤ wr.heap.size) {a b : Int} (hx : l[i] = (a, b)) (k : Nat) :
    ∃ v' w' bo', (Builtin.append_ #[38, 38] 38 #[v, .slice (some ⟨wr.heap.size, 0, none⟩) 1 1]).run Try.prog ((wr.drewN k).alloc (.cells #[.int .i64 0, .int .i64 a, .int .i64 b, .slice none 0 0] 40)) = .ok v' w' ∧
      Pt w' b3 40 [.int .i64 1, .int .i64 0, .int .i64 0, v] ∧ Fr bo.toList wr w' ∧ (∀ q, AsI w r0 b8 b4 b3 top l (i + 1) ((w'.drewN q).setCell ⟨b3, 3, none⟩ v') v' bo') := by
  have fd : Fr [] wr (wr.drewN k) := (Fr.refl [] wr).drewN k
  obtain ⟨v', w', bo', h1, h2, h3, h4⟩ := (I.row.fr fd (by simp)).oneRN (by omega) 0 a b (.slice none 0 0) rfl
  obtain ⟨hr1, hr2, hr3, hr4, hr5⟩ := hr
  have hne : ∀ x, x = r0 ∨ x = b8 ∨ x = b3 → x ∉ bo.toList := fun x hx hm => by
    rcases I.out x (by simpa using hm) with h | h <;> omega
  have f4 : Fr bo.toList wr w' := (fd.mono (by simp)).trans h4
  have p3 := f4.pt I.p3 (hne b3 (by simp))
  refine ⟨v', w', bo', h1, p3, f4, fun q => ?_⟩
  have fq : Fr [] w' (w'.drewN q) := (Fr.refl [] w').drewN q
  have g : Fr [b3] (w'.drewN q) ((w'.drewN q).setCell ⟨b3, 3, none⟩ v') := (Fr.refl _ _).setCell (by simp) _
  have g2 := (fq.mono (ex' := [b3]) (by simp)).trans g
  have hbo' : ∀ z, bo' = some z → z = b4 ∨ top ≤ z := fun z hz => by
    rcases h3 with e | ⟨z', e, h5⟩
    · exact I.out z (by rw [← e]; exact hz)
    · rw [hz] at e; cases e; have h6 : (wr.drewN k).heap.size = wr.heap.size := rfl; omega
  have hbl : ∀ z, bo' = some z → z ≠ b3 := fun z hz => by
    rcases h3 with e | ⟨z', e, h5⟩
    · rcases I.out z (by rw [← e]; exact hz) with h | h <;> omega
    · rw [hz] at e; cases e; have h6 : (wr.drewN k).heap.size = wr.heap.size := rfl; omega
  refine ⟨by omega, ?_, hbo', g2.pt (f4.pt I.p0 (hne r0 (by simp))) (by simp; omega), g2.pt (f4.pt I.p8 (hne b8 (by simp))) (by simp; omega), ?_, ?_⟩
  · rw [lcells_snoc _ l i hlt a b hx]
    exact h2.fr g2 (fun z hz => by simp; exact hbl z hz)
  · exact (show Pt (w'.drewN q) b3 _ _ from p3).set' rfl
  · exact (I.fr.step f4 (fun z hz => .inr (by rcases I.out z (by simpa using hz) with h | h <;> omega))).step g2 (fun z hz => .inr (by simp at hz; omega))
theorem as_any (v : Value) (l : List (Int × Int)) (w : World) (h : PIn w v l) (hn : l.length ≤ 1000000) : Calls Try.prog 54 #[v] w (AsR l w) := by
  obtain ⟨o, cap, rfl, hl⟩ := h
  obtain ⟨N, hN⟩ : ∃ N, l.length = N := ⟨_, rfl⟩
  rw [hN]
  obtain ⟨w1, hw1⟩ : ∃ x, w.alloc (.cells #[.int .i64 0, .int .i64 0, .int .i64 0, .slice none 0 0] 40) = x := ⟨_, rfl⟩
  have P0 := Pt.newA w 40 #[.int .i64 0, .int .i64 0, .int .i64 0, .slice none 0 0]
  rw [hw1] at P0
  have F0 : Fr [] w w1 := by rw [← hw1]; exact (Fr.refl [] w).alloc _
  obtain ⟨r0, hr0⟩ : ∃ x, w.heap.size = x := ⟨_, rfl⟩
  rw [hr0] at P0
  obtain ⟨w2, hw2⟩ : ∃ x, w1.alloc (.cells #[.int .i64 4, .int .i64 0, .int .i64 0, .slice none 0 0, .int .i64 4, .int .i64 0, .int .i64 0, .slice none 0 0] 40) = x := ⟨_, rfl⟩
  have P8 := Pt.newA w1 40 #[.int .i64 4, .int .i64 0, .int .i64 0, .slice none 0 0, .int .i64 4, .int .i64 0, .int .i64 0, .slice none 0 0]
  rw [hw2] at P8
  have F8 : Fr [] w1 w2 := by rw [← hw2]; exact (Fr.refl [] w1).alloc _
  obtain ⟨b8, hb8⟩ : ∃ x, w1.heap.size = x := ⟨_, rfl⟩
  rw [hb8] at P8
  obtain ⟨w3, hw3⟩ : ∃ x, w2.alloc (.cells #[.int .i64 3, .int .i64 0, .int .i64 0, .slice (some ⟨b8, 0, none⟩) 2 2] 40) = x := ⟨_, rfl⟩
  have P4 := Pt.newA w2 40 #[.int .i64 3, .int .i64 0, .int .i64 0, .slice (some ⟨b8, 0, none⟩) 2 2]
  rw [hw3] at P4
  have F4 : Fr [] w2 w3 := by rw [← hw3]; exact (Fr.refl [] w2).alloc _
  obtain ⟨b4, hb4⟩ : ∃ x, w2.heap.size = x := ⟨_, rfl⟩
  rw [hb4] at P4
  obtain ⟨w4, hw4⟩ : ∃ x, w3.alloc (.cells #[.int .i64 1, .int .i64 0, .int .i64 0, .slice (some ⟨b4, 0, none⟩) 1 1] 40) = x := ⟨_, rfl⟩
  have P3 := Pt.newA w3 40 #[.int .i64 1, .int .i64 0, .int .i64 0, .slice (some ⟨b4, 0, none⟩) 1 1]
  rw [hw4] at P3
  have F3 : Fr [] w3 w4 := by rw [← hw4]; exact (Fr.refl [] w3).alloc _
  obtain ⟨b3, hb3⟩ : ∃ x, w3.heap.size = x := ⟨_, rfl⟩
  rw [hb3] at P3
  have hord : w.heap.size ≤ r0 ∧ r0 < b8 ∧ b8 < b4 ∧ b4 < b3 ∧ b3 < w4.heap.size := by
    have q0 := P0.lt; have q8 := P8.lt; have q4 := P4.lt; have q3 := P3.lt
    omega
  have I0 : AsI w r0 b8 b4 b3 w4.heap.size l 0 w4 (.slice (some ⟨b4, 0, none⟩) 1 1) (some b4) := by
    have Q4 := F3.pt P4 (by simp)
    refine ⟨by omega, .inr ⟨b4, 0, 1, rfl, rfl, by omega, Q4.lt, by rw [lcells_len]; simp, fun j hj => ⟨?_, by rw [Nat.zero_add]; exact Q4.free j⟩, fun j hj => ?_⟩, fun z hz => .inl (by cases hz; rfl), ((F8.trans F4).trans F3).pt P0 (by simp), (F4.trans F3).pt P8 (by simp), P3, ((F0.trans F8).trans F4).trans F3⟩
    · rw [Nat.zero_add, Q4.cell]
      match j, hj with
      | 0, _ => rfl
      | 1, _ => rfl
      | 2, _ => rfl
      | 3, _ => rfl
    · rw [Nat.zero_add, Q4.cell]; rfl
  have k3 := P3.cell
  obtain ⟨top, htop⟩ : ∃ t, w4.heap.size = t := ⟨_, rfl⟩
  rw [htop] at hord I0
  replace hl := Lib.hid hl; replace hN := Lib.hid hN; replace P0 := Lib.hid P0; replace F0 := Lib.hid F0; replace P8 := Lib.hid P8; replace F8 := Lib.hid F8; replace P4 := Lib.hid P4; replace F4 := Lib.hid F4; replace P3 := Lib.hid P3; replace F3 := Lib.hid F3; replace hord := Lib.hid hord; replace I0 := Lib.hid I0; replace htop := Lib.hid htop
  go_enter Try.func54, Try.ntmps54
  go_wp2_with fail
  go_loopg [4] (N + 1) (fun k v4 wr => ∃ (i : Nat) (u : Value) (bo : Option Nat), k + i = N + 1 ∧ v4 = .int .i64 i ∧ AsI w r0 b8 b4 b3 top l i wr u bo ∧ top ≤ wr.heap.size)
  case atStart => exact ⟨0, _, _, by omega, rfl, I0.out, by have := htop.out; omega⟩
  case round =>
    obtain ⟨i, u, bo, hk, rfl, hI, hsz⟩ := hrel
    obtain ⟨wi, rfl⟩ : ∃ x : World, x = wr := ⟨_, rfl⟩
    have hle := hI.le
    rw [hN.out] at hle
    obtain ⟨ou, cu, rfl⟩ := hI.row.len
    by_cases hlt : i < N
    · have hltI : (i : Int) < N := by omega
      have hil : i < l.length := by have := hN.out; omega
      obtain ⟨B, off, rfl, hB, a1, a2⟩ := hl.out i hil
      have x1 := hI.fr.cell (p := ⟨B, off + i * 2, none⟩) hB (by simp)
      have x2 := hI.fr.cell (p := ⟨B, off + i * 2 + 1, none⟩) hB (by simp)
      rw [a1] at x1
      rw [a2] at x2
      obtain ⟨⟨p1, p2⟩, hp⟩ : ∃ x, l[i] = x := ⟨_, rfl⟩
      rw [hp] at x1 x2
      dsimp only at x1 x2
      clear a1 a2
      have k3i := hI.p3.cell
      obtain ⟨v', w9, b9, happ, P39, f9, NX⟩ := hI.put hil hn hord.out hsz hp 1
      have k39 := P39.cell
      have z39 := P39.free
      have hs9 : top ≤ w9.heap.size := by have := f9.size; omega
      obtain ⟨o9, c9, rfl⟩ : ∃ o9 c9, v' = .slice o9 (i + 1 + 1) c9 := by
        have := (NX 0).row.len; exact this
      have hb3l : b3 < wi.heap.size := hI.p3.lt
      have ne1 : B ≠ b3 := by have := hord.out; omega
      have hBl : B < wi.heap.size := by have := hI.fr.size; omega
      rw [show wi.drewN 1 = wi.drew from rfl, show wi.drew.alloc (.cells #[.int .i64 0, .int .i64 p1, .int .i64 p2, .slice none 0 0] 40) = (wi.alloc (.cells #[.int .i64 0, .int .i64 p1, .int .i64 p2, .slice none 0 0] 40)).drew from rfl] at happ
      obtain ⟨wA, hwA⟩ : ∃ x, wi.alloc (.cells #[.int .i64 0, .int .i64 p1, .int .i64 p2, .slice none 0 0] 40) = x := ⟨_, rfl⟩
      have PA := Pt.newA wi 40 #[.int .i64 0, .int .i64 p1, .int .i64 p2, .slice none 0 0]
      rw [hwA] at PA
      have FA : Fr [] wi wA := by rw [← hwA]; exact (Fr.refl [] wi).alloc _
      obtain ⟨wb, hwb⟩ : ∃ x, wi.heap.size = x := ⟨_, rfl⟩
      rw [hwb] at PA
      rw [hwA, hwb] at happ
      have k3A := (FA.pt hI.p3 (by simp)).cell
      have x1A := (FA.cell (p := ⟨B, off + i * 2, none⟩) hBl (by simp)).trans x1
      have x2A := (FA.cell (p := ⟨B, off + i * 2 + 1, none⟩) hBl (by simp)).trans x2
      replace PA := Lib.hid PA; replace FA := Lib.hid FA
      replace hI := Lib.hid hI; replace hp := Lib.hid hp; replace happ := Lib.hid happ; replace P39 := Lib.hid P39; replace f9 := Lib.hid f9; replace NX := Lib.hid NX; replace hs9 := Lib.hid hs9
      go_upto_region 5 with fail
      go_region_law (first
        | (refine step_append_run rfl _ _ _ rfl (v := .slice ou (i + 1) cu) rfl (xv := .slice (some ⟨wb, 0, none⟩) 1 1) rfl happ.out ?_))
      all_goals
        go_wp2_with fail
        go_roundg (gk - 1)
        case measure => omega
        case rel => exact ⟨i + 1, _, _, by omega, by go_num, NX.out 0, by simpa [World.setCell] using hs9.out⟩
    · have hltI : ¬ (i : Int) < N := by omega
      obtain rfl : i = N := by omega
      have htk : l.take i = l := List.take_of_length_le (by have := hN.out; omega)
      have k3i := hI.p3.cell
      have k0i := hI.p0.cell
      have z0i := hI.p0.free
      obtain ⟨q1, q2, q3, q4, q5⟩ := hord.out
      have nr0 : r0 ≠ b3 := by omega
      obtain ⟨G, hG⟩ : ∃ G, (((wi.setCell ⟨r0, 0, none⟩ (.int .i64 1)).setCell ⟨r0, 1, none⟩ (.int .i64 0)).setCell ⟨r0, 2, none⟩ (.int .i64 0)).setCell ⟨r0, 3, none⟩ (.slice ou (i + 1) cu) = G := ⟨_, rfl⟩
      have FG : Fr [r0] wi G := by
        rw [← hG]
        exact ((((Fr.refl [r0] wi).setCell (by simp) _).setCell (by simp) _).setCell (by simp) _).setCell (by simp) _
      have PG : Pt G r0 40 [.int .i64 1, .int .i64 0, .int .i64 0, .slice ou (i + 1) cu] := by
        rw [← hG]
        exact (((hI.p0.set' rfl).set' rfl).set' rfl).set' rfl
      have RG : Row 4 G (.slice ou (i + 1) cu) (l.length + 1) (lcells (.slice (some ⟨b8, 0, none⟩) 2 2) l) bo := by
        have := hI.row.fr FG (fun z hz => by simp; rcases hI.out z hz with h | h <;> omega)
        rw [htk] at this
        rw [hN.out]; exact this
      have P8G := FG.pt hI.p8 (by simp; omega)
      have NG : NI G noN (.agg #[.int .i64 3, .int .i64 0, .int .i64 0, .slice (some ⟨b8, 0, none⟩) 2 2]) := by
        refine NIn.mk 3 0 0 [.mk 4 0 0 [], .mk 4 0 0 []] _ 2 (fun _ => .slice none 0 0) (fun j hj => ⟨b8, 0, rfl, P8G.lt, trivial, ?_⟩) (fun j hj => ?_)
        · rw [P8G.cell, P8G.cell, P8G.cell, P8G.cell]
          match j, hj with
          | 0, _ => exact ⟨rfl, rfl, rfl, rfl⟩
          | 1, _ => exact ⟨rfl, rfl, rfl, rfl⟩
        · match j, hj with
          | 0, _ => exact leaf_ni _ G 4 0 0
          | 1, _ => exact leaf_ni _ G 4 0 0
      have GO : AsR l w (.returned (.agg #[.int .i64 1, .int .i64 0, .int .i64 0, .slice ou (i + 1) cu])) G := ⟨_, rfl, asN_ni RG NG, hI.fr.step FG (fun z hz => .inr (by simp at hz; omega))⟩
      have cG := PG.cell
      replace hI := Lib.hid hI; replace htk := Lib.hid htk; replace FG := Lib.hid FG; replace PG := Lib.hid PG; replace RG := Lib.hid RG; replace P8G := Lib.hid P8G; replace NG := Lib.hid NG; replace GO := Lib.hid GO; replace hord := Lib.hid hord
      clear q1 q2 q3 q4 q5
      go_wp2_with fail
      exact bodyPost_ret (v := .agg #[.int .i64 1, .int .i64 0, .int .i64 0, .slice ou (i + 1) cu]) (by simp [results, Try.results54, go_sem, cG]) rfl GO.out
end Go.Proofs.Ytehmfnpiidcbpaa
