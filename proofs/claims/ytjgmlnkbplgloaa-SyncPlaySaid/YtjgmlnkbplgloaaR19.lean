import Derived.Test.YtjgmlnkbplgloaaR18
import Derived.Test.YtjgmlnkbplgloaaQ9
import Derived.StillTailTactics
import Derived.Lib.BufferMore
namespace Go.Proofs.Ytjgmlnkbplgloaa
open Go.RowKit
set_option linter.unusedVariables false
set_option linter.unusedSimpArgs false
set_option maxHeartbeats 16000000
set_option maxRecDepth 20000
/-- What a deed leaves of the pair. -/
def DR (base bp : Nat) (bb : Bool → Nat) (p : PQ) (w : World) (r : Ending) (w' : World) : Prop :=
  r = .returned (.tuple #[]) ∧ (∃ rs' v' o' ro' rt' lab', (∀ j, Sim (rs' j) (p.sd j)) ∧ RQ base w' bp bb rs' p.q v' o' ro' rt' lab') ∧ Below base w w'
theorem ActR.dr {base bp : Nat} {bb : Bool → Nat} {rs : Bool → RS} {p : PQ} {j : Bool} {e : Ev} {w w' : World} {r : Ending} (h : ActR base bp bb rs p.sd p.q j e w r w') (hs : ∀ j, Sim (rs j) (p.sd j)) : DR base bp bb (p.meet j e) w r w' := by
  obtain ⟨h1, ⟨r', v', o', ro', rt', lab', h2, h3⟩, h4⟩ := h
  refine ⟨h1, ⟨_, v', o', ro', rt', lab', fun i => ?_, h3⟩, h4⟩
  show Sim (upd rs j r' i) (mtS p.sd j e i)
  by_cases ei : i = j
  · subst ei; rw [upd_same]; exact h2
  · rw [upd_other _ _ _ _ ei]; unfold mtS; rw [upd_other _ _ _ _ ei]; exact hs i
theorem DR.after {base bp : Nat} {bb : Bool → Nat} {p : PQ} {w0 w w' : World} {r : Ending} (h : DR base bp bb p w r w') (hb : Below base w0 w) : DR base bp bb p w0 r w' := ⟨h.1, h.2.1, hb.trans h.2.2⟩
theorem Pt.noop {w : World} {b : Nat} {T : TypeId} {cs : List Value} (h : Pt w b T cs) {o : Nat} {v : Value} (hv : cs[o]? = some v) : w.setCell ⟨b, o, none⟩ v = w := by
  have hset : cs.toArray.setIfInBounds o v = cs.toArray := by
    apply Array.ext_getElem?
    intro i
    simp only [Array.getElem?_setIfInBounds, List.getElem?_toArray, List.size_toArray]
    by_cases q : o = i
    · subst q
      rw [if_pos rfl, hv]
      have := (List.getElem?_eq_some_iff.1 hv).1
      rw [if_pos this]
    · rw [if_neg q]
  have hh : (w.setCell ⟨b, o, none⟩ v).heap = w.heap := by
    apply Array.ext_getElem?
    intro i
    by_cases q : b = i
    · subst q
      rw [Lib.heap_setCell_same h v, hset]; exact h.symm
    · simp [World.setCell, Array.getElem?_modify, q]
  exact congrArg (fun x => { w with heap := x }) hh
theorem Fr.ofNew {w w' : World} {b : Nat} (h : w.heap.size = b) : w.heap.size ≤ b := Nat.le_of_eq h
theorem rdeed_any (base bp : Nat) (bb : Bool → Nat) (p : PQ) (kk : Nat) (n : Int) (w : World) (rs : Bool → RS) (vv : Bool → Value) (o ro rt : Bool → Option Nat) (lab : Nat → Nat) (h : RQ base w bp bb rs p.q vv o ro rt lab)
    (hs : ∀ j, Sim (rs j) (p.sd j)) (hPI : PI kk p) (hkk : kk ≤ 1000) (h0 : -9223372036854775808 ≤ n) (h1 : n ≤ 9223372036854775807) :
    Calls Try.prog 35 #[.pointer (some ⟨bp, 0, none⟩), .int .i64 n] w (DR base bp bb (p.deed n) w) := by
  have hdd : p.deed n = p.act (n % 12) (sideOf n) (n / 12 / 2) := rfl
  have R1 := fun w => mod_any n 12 w (by omega) (by omega)
  have F1 := fun w => floor_any n 12 w (by omega) h0 h1
  have R2 := fun w => mod_any (n / 12) 2 w (by omega) (by omega)
  have F2 := fun w => floor_any (n / 12) 2 w (by omega) (by omega) (by omega)
  have M2 := fun w => mod_any (n / 12 / 2) 2 w (by omega) (by omega)
  have M3 := fun w => mod_any (n / 12 / 2) 3 w (by omega) (by omega)
  have F3 := fun w => floor_any (n / 12 / 2) 3 w (by omega) (by omega) (by omega)
  have M5 := fun w => mod_any (n / 12 / 2 / 3) 5 w (by omega) (by omega)
  have M6 := fun w => mod_any (n / 12 / 2) 1000000 w (by omega) (by omega)
  have tr := (by omega : 0 ≤ n / 12 / 2 % 3 ∧ n / 12 / 2 % 3 < 3 ∧ 0 ≤ n / 12 / 2 / 3 % 5 ∧ n / 12 / 2 / 3 % 5 < 5 ∧ 0 ≤ n / 12 / 2 % 1000000 ∧ n / 12 / 2 % 1000000 < 1000000 ∧ 0 ≤ n % 12 ∧ n % 12 < 12 ∧ 0 ≤ n / 12 / 2 % 2 ∧ n / 12 / 2 % 2 < 2)
  obtain ⟨j, hj⟩ : ∃ j, sideOf n = j := ⟨_, rfl⟩
  have hkj : n / 12 % 2 = (j.toNat : Int) := by
    rw [← hj]; unfold sideOf
    by_cases q : n / 12 % 2 = 1
    · rw [decide_eq_true q, q]; rfl
    · rw [decide_eq_false q]; show n / 12 % 2 = 0; omega
  rw [hj] at hdd
  obtain ⟨d, hd⟩ : ∃ d, n % 12 = d := ⟨_, rfl⟩
  obtain ⟨k, hk⟩ : ∃ k, n / 12 = k := ⟨_, rfl⟩
  rw [hk] at hkj hdd F1 R2 F2 M2 M3 F3 M5 M6 tr
  rw [hd] at hdd R1 tr
  obtain ⟨t, ht⟩ : ∃ t, k / 2 = t := ⟨_, rfl⟩
  rw [ht] at hdd F2 M2 M3 F3 M5 M6 tr
  obtain ⟨nj, hnj⟩ : ∃ m, j.toNat = m := ⟨_, rfl⟩
  rw [hnj] at hkj
  rw [hkj] at R2
  have hgp : base ≤ w.heap.size := by have := h.gp; have := h.plt; omega
  have hnj2 : (nj : Int) < 2 := by rw [← hnj]; cases j <;> decide
  rw [hdd]
  obtain ⟨we, hwe⟩ : ∃ x, w.alloc (.cells #[.int .i64 0, .int .i64 1, .int .i64 0, .int .i64 0, .int .i64 0, .string ⟨#[]⟩] TEv) = x := ⟨_, rfl⟩
  have PE := Pt.newA w TEv #[.int .i64 0, .int .i64 1, .int .i64 0, .int .i64 0, .int .i64 0, .string ⟨#[]⟩]
  rw [hwe] at PE
  have FE : Fr [] w we := by rw [← hwe]; exact (Fr.refl [] w).alloc _
  obtain ⟨be, hbe⟩ : ∃ x, w.heap.size = x := ⟨_, rfl⟩
  rw [hbe] at PE
  have ce := PE.cell
  have ze := PE.free
  have hbpl := h.plt
  have hne1 : be ≠ bp := by omega
  obtain ⟨bj, hbj⟩ : ∃ b, bb j = b := ⟨_, rfl⟩
  have hbjl := h.blt j
  rw [hbj] at hbjl
  have hne2 : be ≠ bj := by omega
  have PL : ∀ w', Fr [] w w' → (∀ i, w'.cell? ⟨bp, i, none⟩ = [Value.pointer (some ⟨bb false, 0, none⟩), .pointer (some ⟨bb true, 0, none⟩), vv false, vv true][i]?) := fun w' f => (f.pt h.pair (by simp)).cell
  have csj : we.cell? ⟨bp, nj, none⟩ = some (.pointer (some ⟨bj, 0, none⟩)) := by rw [PL we FE, ← hnj, ← hbj]; cases j <;> rfl
  have csj0 : w.cell? ⟨bp, nj, none⟩ = some (.pointer (some ⟨bj, 0, none⟩)) := by rw [PL w (Fr.refl [] w), ← hnj, ← hbj]; cases j <;> rfl
  have HA := fun w' (f : Fr [] w w') e => (ract_any base w' bp bb rs p.sd p.q vv o ro rt lab j e nj (by rw [hnj]) (h.fr0 f) (hs j) (hPI.sv j) ((hPI.sj j).si (by omega)) (by have := hPI.len (!j); omega)).mono fun r w9 hx => (hx.dr hs).after (f.below (n := base) (by have := h.gp; omega) (by simp))
  obtain ⟨vo, vt, hpj, _⟩ := h.rm j
  rw [hbj] at hpj
  have hR0 : RQ base w bp bb rs p.q vv o ro rt lab := h
  have hpj2 : Pt we bj TRef (RS.cells (rs j) vo vt) := FE.pt hpj (by simp)
  have ccj := hpj2.cell
  have e1 := (hs j).a; have e2 := (hs j).r; have e3 := (hs j).kt; have e4 := (hs j).k
  simp only [RS.cells, e1, e2, e3] at ccj
  have hSVj := (hPI.sv j).ord
  have hm0 := (hPI.sj j).m0
  replace R1 := Lib.hid R1; replace F1 := Lib.hid F1; replace R2 := Lib.hid R2; replace F2 := Lib.hid F2; replace M2 := Lib.hid M2; replace M3 := Lib.hid M3; replace F3 := Lib.hid F3; replace M5 := Lib.hid M5; replace M6 := Lib.hid M6; replace HA := Lib.hid HA; replace PL := Lib.hid PL; replace hR0 := Lib.hid hR0; replace hpj2 := Lib.hid hpj2; replace hpj := Lib.hid hpj; replace PE := Lib.hid PE; replace FE := Lib.hid FE; replace hwe := Lib.hid hwe; replace hs := Lib.hid hs; replace hgp := Lib.hid hgp; replace hPI := Lib.hid hPI
  replace hj := Lib.hid hj; replace hkj := Lib.hid hkj; replace hnj := Lib.hid hnj; replace hbj := Lib.hid hbj; replace hd := Lib.hid hd; replace hk := Lib.hid hk; replace ht := Lib.hid ht; replace hdd := Lib.hid hdd; replace e1 := Lib.hid e1; replace e2 := Lib.hid e2; replace e3 := Lib.hid e3; replace e4 := Lib.hid e4
  clear h
  obtain ⟨tr1, tr2, tr3, tr4, tr5, tr6, tr7, tr8, tr9, tr10⟩ := tr
  go_enter Try.func35, Try.ntmps35
  go_wp2_with fail
  refine (R1.out _).mono ?_
  rintro x w5 ⟨rfl, rfl⟩
  go_wp2_with fail
  refine (F1.out _).mono ?_
  rintro x w5 ⟨rfl, rfl⟩
  go_wp2_with fail
  refine (R2.out _).mono ?_
  rintro x w5 ⟨rfl, rfl⟩
  go_wp2_with fail
  refine (F2.out _).mono ?_
  rintro x w5 ⟨rfl, rfl⟩
  go_upto_region 6 with fail
  rw [hwe.out]
  rcases (by omega : d = 0 ∨ d = 1 ∨ d = 2 ∨ d = 3 ∨ d = 4 ∨ d = 5 ∨ d = 6 ∨ 7 ≤ d) with hd0 | hd0 | hd0 | hd0 | hd0 | hd0 | hd0 | h7
  · as_aux_lemma =>
    subst hd0
    go_wp2_with fail
    refine (HA.out _ (by repeat' first | exact FE.out | exact (by rw [← hw4]; exact F3w.out.drew) | refine Fr.drew ?_ | refine Fr.setCell ?_ (Or.inr (Nat.le_of_eq hbe)) _) (ptE)).mono ?_
    rintro r w9 ⟨rfl, hx2, hx3⟩
    replace hx2 := Lib.hid hx2; replace hx3 := Lib.hid hx3
    go_wp2_with fail
    go_end0
    exact ⟨rfl, by rw [act_pt p _ j t (by omega)]; exact hx2.out, hx3.out⟩
  · as_aux_lemma =>
    subst hd0
    go_wp2_with fail
    refine (HA.out _ (by repeat' first | exact FE.out | exact (by rw [← hw4]; exact F3w.out.drew) | refine Fr.drew ?_ | refine Fr.setCell ?_ (Or.inr (Nat.le_of_eq hbe)) _) (ptE)).mono ?_
    rintro r w9 ⟨rfl, hx2, hx3⟩
    replace hx2 := Lib.hid hx2; replace hx3 := Lib.hid hx3
    go_wp2_with fail
    go_end0
    exact ⟨rfl, by rw [act_pt p _ j t (by omega)]; exact hx2.out, hx3.out⟩
  · as_aux_lemma =>
    subst hd0
    go_wp2_with fail
    refine (HA.out _ (by repeat' first | exact FE.out | exact (by rw [← hw4]; exact F3w.out.drew) | refine Fr.drew ?_ | refine Fr.setCell ?_ (Or.inr (Nat.le_of_eq hbe)) _) (ptE)).mono ?_
    rintro r w9 ⟨rfl, hx2, hx3⟩
    replace hx2 := Lib.hid hx2; replace hx3 := Lib.hid hx3
    go_wp2_with fail
    go_end0
    exact ⟨rfl, by rw [act_pt p _ j t (by omega)]; exact hx2.out, hx3.out⟩
  · as_aux_lemma =>
    subst hd0
    rcases (by omega : t % 2 = 0 ∨ t % 2 = 1) with q | q
    all_goals
      have hE : majE t = ⟨0, if t % 2 = 1 then 4 else 3, 0, 0, 0, ByteArray.empty⟩ := rfl
      first | rw [if_neg (by omega)] at hE | rw [if_pos q] at hE
      have C := fun w' f => HA.out w' f (majE t)
      have hact := act_maj p j t
      rw [hE] at C hact
      rw [q] at M2
      replace C := Lib.hid C; replace hact := Lib.hid hact
      clear hE q
      go_wp2_with fail
      refine (M2.out _).mono ?_
      rintro x w5 ⟨rfl, rfl⟩
      go_wp2_with fail
      refine (C.out _ (by repeat' first | exact FE.out | exact (by rw [← hw4]; exact F3w.out.drew) | refine Fr.drew ?_ | refine Fr.setCell ?_ (Or.inr (Nat.le_of_eq hbe)) _)).mono ?_
      rintro r w9 ⟨rfl, hx2, hx3⟩
      replace hx2 := Lib.hid hx2; replace hx3 := Lib.hid hx3
      go_wp2_with fail
      go_end0
      exact ⟨rfl, by rw [hact.out]; exact hx2.out, hx3.out⟩
  · as_aux_lemma =>
    subst hd0
    go_upto_region 18 with fail
    obtain ⟨w3, hw3⟩ : ∃ x, we.setCell ⟨be, 1, none⟩ (.int .i64 2) = x := ⟨_, rfl⟩
    have P3 : Pt w3 be TEv [.int .i64 0, .int .i64 2, .int .i64 0, .int .i64 0, .int .i64 0, .string ⟨#[]⟩] := by rw [← hw3]; exact PE.out.set' rfl
    have F3w : Fr [] w w3 := by rw [← hw3]; exact FE.out.setCell (Or.inr (Nat.le_of_eq hbe)) _
    have c3 : w3.drew.cell? ⟨bj, 2, none⟩ = some (.int .i64 (p.sd j).a) := by rw [← e1.out]; exact (F3w.drew.pt hpj.out (by simp)).cell 2
    have c4 := P3.drew.cell
    have z4 := P3.drew.free
    rw [hw3]
    replace P3 := Lib.hid P3; replace F3w := Lib.hid F3w; replace hw3 := Lib.hid hw3
    go_still_tail 8, (by kernel_rfl)
    rw [show ({ heap := w3.heap, tape := w3.tape, drawn := w3.drawn + 1, os := w3.os, output := w3.output } : World) = w3.drew from rfl]
    generalize hw4 : w3.drew = w4 at *
    repeat still_step
    still_call ((M3.out _).mono fun _ _ h => ⟨h.1, h.2.symm⟩)
    repeat still_step
    refine wpStill_nil ?_
    all_goals
      go_wp2_with fail
      refine (HA.out _ (by repeat' first | exact FE.out | exact (by rw [← hw4]; exact F3w.out.drew) | refine Fr.drew ?_ | refine Fr.setCell ?_ (Or.inr (Nat.le_of_eq hbe)) _) (cnfE (p.sd j).a t)).mono ?_
      rintro r w9 ⟨rfl, hx2, hx3⟩
      replace hx2 := Lib.hid hx2; replace hx3 := Lib.hid hx3
      go_wp2_with fail
      go_end0
      exact ⟨rfl, by rw [act_cnf p j t]; exact hx2.out, hx3.out⟩
  · as_aux_lemma =>
    subst hd0
    by_cases q : t % 3 = 2
    · have qb : (t % 3 == 2) = true := by simp [q]
      have C := fun w' f => HA.out w' f (agnE (p.sd j).r t)
      have hE : agnE (p.sd j).r t = ⟨0, 5, if t % 3 = 2 then t % 1000000 else (p.sd j).r + t / 3 % 5, t % 3, 0, ByteArray.empty⟩ := rfl
      rw [if_pos q] at hE
      have hact := act_agn p j t
      rw [hE] at C hact
      replace C := Lib.hid C; replace hact := Lib.hid hact; replace q := Lib.hid q
      clear hE
      go_upto_region 21 with fail
      go_wp2_with fail
      refine (M3.out _).mono ?_
      rintro x w5 ⟨rfl, rfl⟩
      go_upto_region 22 with fail
      obtain ⟨w3, hw3⟩ : ∃ x, (we.setCell ⟨be, 1, none⟩ (.int .i64 5)).setCell ⟨be, 3, none⟩ (.int .i64 (t % 3)) = x := ⟨_, rfl⟩
      have P3 : Pt w3 be TEv [.int .i64 0, .int .i64 5, .int .i64 0, .int .i64 (t % 3), .int .i64 0, .string ⟨#[]⟩] := by rw [← hw3]; exact (PE.out.set' rfl).set' rfl
      have F3w : Fr [] w w3 := by rw [← hw3]; exact (FE.out.setCell (Or.inr (Nat.le_of_eq hbe)) _).setCell (Or.inr (Nat.le_of_eq hbe)) _
      have c3 : w3.drew.cell? ⟨bj, 3, none⟩ = some (.int .i64 (p.sd j).r) := by rw [← e2.out]; exact (F3w.drew.pt hpj.out (by simp)).cell 3
      have c4 := P3.drew.cell
      have z4 := P3.drew.free
      rw [hw3]
      replace P3 := Lib.hid P3; replace F3w := Lib.hid F3w; replace hw3 := Lib.hid hw3
      go_still_tail 9, (by kernel_rfl)
      rw [show ({ heap := w3.heap, tape := w3.tape, drawn := w3.drawn + 1, os := w3.os, output := w3.output } : World) = w3.drew from rfl]
      generalize hw4 : w3.drew = w4 at *
      repeat still_step
      still_call ((F3.out _).mono fun _ _ h => ⟨h.1, h.2.symm⟩)
      repeat still_step
      still_call ((M5.out _).mono fun _ _ h => ⟨h.1, h.2.symm⟩)
      repeat still_step
      refine wpStill_nil ?_
      all_goals
        go_wp2_with fail
        refine (M6.out _).mono ?_
        rintro x w5 ⟨rfl, rfl⟩
        go_wp2_with fail
        refine (C.out _ (by repeat' first | exact FE.out | exact (by rw [← hw4]; exact F3w.out.drew) | refine Fr.drew ?_ | refine Fr.setCell ?_ (Or.inr (Nat.le_of_eq hbe)) _)).mono ?_
        rintro r w9 ⟨rfl, hx2, hx3⟩
        replace hx2 := Lib.hid hx2; replace hx3 := Lib.hid hx3
        go_wp2_with fail
        go_end0
        exact ⟨rfl, by rw [hact.out]; exact hx2.out, hx3.out⟩
    · have qb : (t % 3 == 2) = false := by simp [q]
      have C := fun w' f => HA.out w' f (agnE (p.sd j).r t)
      have hE : agnE (p.sd j).r t = ⟨0, 5, if t % 3 = 2 then t % 1000000 else (p.sd j).r + t / 3 % 5, t % 3, 0, ByteArray.empty⟩ := rfl
      rw [if_neg q] at hE
      have hact := act_agn p j t
      rw [hE] at C hact
      replace C := Lib.hid C; replace hact := Lib.hid hact; replace q := Lib.hid q
      clear hE
      go_upto_region 21 with fail
      go_wp2_with fail
      refine (M3.out _).mono ?_
      rintro x w5 ⟨rfl, rfl⟩
      go_upto_region 22 with fail
      obtain ⟨w3, hw3⟩ : ∃ x, (we.setCell ⟨be, 1, none⟩ (.int .i64 5)).setCell ⟨be, 3, none⟩ (.int .i64 (t % 3)) = x := ⟨_, rfl⟩
      have P3 : Pt w3 be TEv [.int .i64 0, .int .i64 5, .int .i64 0, .int .i64 (t % 3), .int .i64 0, .string ⟨#[]⟩] := by rw [← hw3]; exact (PE.out.set' rfl).set' rfl
      have F3w : Fr [] w w3 := by rw [← hw3]; exact (FE.out.setCell (Or.inr (Nat.le_of_eq hbe)) _).setCell (Or.inr (Nat.le_of_eq hbe)) _
      have c3 : w3.drew.cell? ⟨bj, 3, none⟩ = some (.int .i64 (p.sd j).r) := by rw [← e2.out]; exact (F3w.drew.pt hpj.out (by simp)).cell 3
      have c4 := P3.drew.cell
      have z4 := P3.drew.free
      rw [hw3]
      replace P3 := Lib.hid P3; replace F3w := Lib.hid F3w; replace hw3 := Lib.hid hw3
      go_still_tail 9, (by kernel_rfl)
      rw [show ({ heap := w3.heap, tape := w3.tape, drawn := w3.drawn + 1, os := w3.os, output := w3.output } : World) = w3.drew from rfl]
      generalize hw4 : w3.drew = w4 at *
      repeat still_step
      still_call ((F3.out _).mono fun _ _ h => ⟨h.1, h.2.symm⟩)
      repeat still_step
      still_call ((M5.out _).mono fun _ _ h => ⟨h.1, h.2.symm⟩)
      repeat still_step
      refine wpStill_nil ?_
      all_goals
        go_wp2_with fail
        refine (C.out _ (by repeat' first | exact FE.out | exact (by rw [← hw4]; exact F3w.out.drew) | refine Fr.drew ?_ | refine Fr.setCell ?_ (Or.inr (Nat.le_of_eq hbe)) _)).mono ?_
        rintro r w9 ⟨rfl, hx2, hx3⟩
        replace hx2 := Lib.hid hx2; replace hx3 := Lib.hid hx3
        go_wp2_with fail
        go_end0
        exact ⟨rfl, by rw [hact.out]; exact hx2.out, hx3.out⟩
  · as_aux_lemma =>
    subst hd0
    cases hkt : (p.sd j).kt
    · have hact : p.act 6 j t = p := by rw [act_ans, hkt]; rfl
      simp only [hkt] at ccj
      replace hact := Lib.hid hact; replace hkt := Lib.hid hkt
      go_wp2_with fail
      go_end0
      have F9 : Fr [] w we := FE.out
      exact ⟨rfl, by rw [hact.out]; exact ⟨rs, _, _, _, _, _, hs.out, hR0.out.fr0 F9⟩, F9.below hgp.out (by simp)⟩
    · have hact : p.act 6 j t = p.meet j (replyE (p.sd j).kn) := by rw [act_ans, hkt]; rfl
      rw [(e4.out hkt).2] at ccj
      simp only [hkt] at ccj
      replace hact := Lib.hid hact; replace hkt := Lib.hid hkt
      go_wp2_with fail
      refine (HA.out _ (by repeat' first | exact FE.out | exact (by rw [← hw4]; exact F3w.out.drew) | refine Fr.drew ?_ | refine Fr.setCell ?_ (Or.inr (Nat.le_of_eq hbe)) _) (replyE (p.sd j).kn)).mono ?_
      rintro r w9 ⟨rfl, hx2, hx3⟩
      replace hx2 := Lib.hid hx2; replace hx3 := Lib.hid hx3
      go_wp2_with fail
      go_end0
      exact ⟨rfl, by rw [hact.out]; exact hx2.out, hx3.out⟩
  · as_aux_lemma =>
    have hact := act_pop p d j t h7
    have x0 : (d == 0) = false := by rw [beq_eq_false_iff_ne]; omega
    have x1 : (d == 1) = false := by rw [beq_eq_false_iff_ne]; omega
    have x2 : (d == 2) = false := by rw [beq_eq_false_iff_ne]; omega
    have x3 : (d == 3) = false := by rw [beq_eq_false_iff_ne]; omega
    have x4 : (d == 4) = false := by rw [beq_eq_false_iff_ne]; omega
    have x5 : (d == 5) = false := by rw [beq_eq_false_iff_ne]; omega
    have x6 : (d == 6) = false := by rw [beq_eq_false_iff_ne]; omega
    have CW : ∀ w', Fr [] w w' → w'.cell? ⟨bp, 2 + nj, none⟩ = some (vv j) := fun w' f => by rw [PL.out w' f, ← hnj.out]; cases j <;> rfl
    have cwx := CW we FE.out
    cases hqj : p.q j with
    | nil =>
      have hp2 : p.pop j = p := by unfold PQ.pop; rw [hqj]
      have hr := hR0.out.row j
      rw [hqj] at hr
      obtain ⟨oz, cz, hvz⟩ := hr.len
      have hvz' : vv j = .slice oz 0 cz := hvz
      rw [hvz'] at cwx
      rw [hp2] at hact
      clear CW
      replace hact := Lib.hid hact; replace hp2 := Lib.hid hp2; replace hvz := Lib.hid hvz; replace hvz' := Lib.hid hvz'; replace hr := Lib.hid hr; replace hqj := Lib.hid hqj
      go_wp2_with fail
      go_end0
      exact ⟨rfl, by rw [hact.out]; exact ⟨rs, _, _, _, _, _, hs.out, hR0.out.fr0 FE.out⟩, FE.out.below hgp.out (by simp)⟩
    | cons ev r =>
      have hp2 : p.pop j = PQ.meet ⟨p.sd, upd p.q j r⟩ j ev := by unfold PQ.pop; rw [hqj]
      rw [hp2] at hact
      have hjj : (!j) ≠ j := by cases j <;> simp
      obtain ⟨bq, oq, cap2, hv, hcap, hbl, hbw3, hcells, hLEFT⟩ := hR0.out.pop j hqj
      have hway : ev.way = 1 := hPI.out.dn j ev (by rw [hqj]; simp)
      rw [hnj.out] at hLEFT
      rw [hv] at cwx CW
      have h0 : (0 : Int) < ((r.length + 1 : Nat) : Int) := by omega
      have h01 : (1 : Int) ≤ (r.length : Int) + 1 := by omega
      have hbq : bq ≠ be := by omega
      have hlr : (upd p.q j r (!j)).length < 1000000 := by rw [upd_other p.q j (!j) r hjj]; have := hPI.out.len (!j); omega
      have hIj := (hPI.out.sj j).si (by omega)
      obtain ⟨xw, xk, xa, xb, xc, xd⟩ := ev
      dsimp only at hway
      subst hway
      have hcq : ∀ k, k < 6 → we.cell? ⟨bq, oq + k, none⟩ = (Ev.cells ⟨1, xk, xa, xb, xc, xd⟩)[k]? := fun k hk => by rw [← hcells k hk]; exact FE.out.cell hbl (by simp)
      have c0 := hcq 0 (by omega); have c1 := hcq 1 (by omega); have c2 := hcq 2 (by omega); have c3 := hcq 3 (by omega); have c4 := hcq 4 (by omega); have c5 := hcq 5 (by omega)
      simp only [Ev.cells, Nat.add_zero, List.getElem?_cons_zero, List.getElem?_cons_succ] at c0 c1 c2 c3 c4 c5
      have hwr0 : IntKind.i64.wrap 0 = 0 := by decide
      replace CW := Lib.hid CW
      replace hact := Lib.hid hact; replace hp2 := Lib.hid hp2; replace hqj := Lib.hid hqj; replace hv := Lib.hid hv; replace hcells := Lib.hid hcells; replace hcq := Lib.hid hcq; replace hLEFT := Lib.hid hLEFT; replace hlr := Lib.hid hlr; replace hIj := Lib.hid hIj; replace hjj := Lib.hid hjj
      go_upto_region 9 with fail
      obtain ⟨w8, hw8⟩ : ∃ x, (((((we.setCell ⟨be, 0, none⟩ (.int .i64 1)).setCell ⟨be, 1, none⟩ (.int .i64 xk)).setCell ⟨be, 2, none⟩ (.int .i64 xa)).setCell ⟨be, 3, none⟩ (.int .i64 xb)).setCell ⟨be, 4, none⟩ (.int .i64 xc)).setCell ⟨be, 5, none⟩ (.string xd) = x := ⟨_, rfl⟩
      have P8 : Pt w8 be TEv [.int .i64 1, .int .i64 xk, .int .i64 xa, .int .i64 xb, .int .i64 xc, .string xd] := by rw [← hw8]; exact (((((PE.out.set' rfl).set' rfl).set' rfl).set' rfl).set' rfl).set' rfl
      have F8 : Fr [] w w8 := by
        rw [← hw8]
        exact (((((FE.out.setCell (Or.inr (Nat.le_of_eq hbe)) _).setCell (Or.inr (Nat.le_of_eq hbe)) _).setCell (Or.inr (Nat.le_of_eq hbe)) _).setCell (Or.inr (Nat.le_of_eq hbe)) _).setCell (Or.inr (Nat.le_of_eq hbe)) _).setCell (Or.inr (Nat.le_of_eq hbe)) _
      rw [hw8]
      obtain ⟨w4, hw4⟩ : ∃ x, w8.drew = x := ⟨_, rfl⟩
      have e8 := P8.cell
      have z8 := P8.free
      have d8 := CW.out w8 F8
      have f8 := (F8.pt hR0.out.pair (by simp)).free
      have P4 : Pt w4 be TEv [.int .i64 1, .int .i64 xk, .int .i64 xa, .int .i64 xb, .int .i64 xc, .string xd] := by rw [← hw4]; exact P8.drew
      have F4 : Fr [] w w4 := by rw [← hw4]; exact F8.drew
      have d4 := CW.out w4 F4
      have f4 := (F4.pt hR0.out.pair (by simp)).free
      have N4 : ∀ u, ((w4.setCell ⟨bp, 2 + nj, none⟩ u).setCell ⟨be, 0, none⟩ (.int .i64 1)) = w4.setCell ⟨bp, 2 + nj, none⟩ u := fun u => (P4.ne (p := ⟨bp, 2 + nj, none⟩) hne1 u).noop rfl
      have cw : ∀ u k, (w4.setCell ⟨bp, 2 + nj, none⟩ u).cell? ⟨be, k, none⟩ = (Ev.cells ⟨1, xk, xa, xb, xc, xd⟩)[k]? := fun u k => (P4.ne (p := ⟨bp, 2 + nj, none⟩) hne1 u).cell k
      have zw : ∀ u k, (w4.setCell ⟨bp, 2 + nj, none⟩ u).frozen? ⟨be, k, none⟩ = false := fun u k => (P4.ne (p := ⟨bp, 2 + nj, none⟩) hne1 u).free k
      have LEFTd := fun u hu => hLEFT.out w4 F4 u hu
      simp only [Ev.cells] at cw
      replace P8 := Lib.hid P8; replace F8 := Lib.hid F8; replace hw8 := Lib.hid hw8; replace N4 := Lib.hid N4; replace P4 := Lib.hid P4; replace F4 := Lib.hid F4; replace hw4 := Lib.hid hw4
      by_cases hc1 : cap2 = 1
      · have LEFT1 := LEFTd _ (if_pos hc1).symm
        clear LEFTd
        subst hc1
        obtain rfl : r = [] := by cases r with | nil => rfl | cons _ _ => simp at hcap
        simp only [List.length_nil] at LEFT1
        replace LEFT1 := Lib.hid LEFT1
        go_still_tail 12, (by kernel_rfl)
        rw [show ({ heap := w8.heap, tape := w8.tape, drawn := w8.drawn + 1, os := w8.os, output := w8.output } : World) = w8.drew from rfl, hw4.out]
        repeat still_step
        first | refine wpStill_nil ?_ | skip
        go_wp2_with fail
        rw [N4.out]
        obtain ⟨⟨o6, HL⟩, HB⟩ := LEFT1.out
        refine ((ract_any base _ bp bb rs p.sd _ _ o6 ro rt lab j ⟨1, xk, xa, xb, xc, xd⟩ nj (by rw [hnj.out]) HL (hs.out j) (hPI.out.sv j) hIj.out hlr.out).mono fun r w9 hx => ActR.dr (p := ⟨p.sd, upd p.q j []⟩) hx hs.out).mono ?_
        rintro r w9 ⟨rfl, hx2, hx3⟩
        replace hx3 := Below.trans HB hx3
        replace hx2 := Lib.hid hx2; replace hx3 := Lib.hid hx3; replace HL := Lib.hid HL; replace HB := Lib.hid HB
        go_wp2_with fail
        go_end0
        exact ⟨rfl, by rw [hact.out]; exact hx2.out, hx3.out⟩
      · have LEFT1 := LEFTd _ (if_neg hc1).symm
        clear LEFTd
        replace LEFT1 := Lib.hid LEFT1
        have hc2 : (cap2 - 1 = 0) = False := by simp only [eq_iff_iff, iff_false]; omega
        have hc3 : ¬ cap2 ≤ 1 := by omega
        go_still_tail 12, (by kernel_rfl)
        rw [show ({ heap := w8.heap, tape := w8.tape, drawn := w8.drawn + 1, os := w8.os, output := w8.output } : World) = w8.drew from rfl, hw4.out]
        repeat still_step
        first | refine wpStill_nil ?_ | skip
        go_wp2_with fail
        rw [N4.out]
        obtain ⟨⟨o6, HL⟩, HB⟩ := LEFT1.out
        refine ((ract_any base _ bp bb rs p.sd _ _ o6 ro rt lab j ⟨1, xk, xa, xb, xc, xd⟩ nj (by rw [hnj.out]) HL (hs.out j) (hPI.out.sv j) hIj.out hlr.out).mono fun r9 w9 hx => ActR.dr (p := ⟨p.sd, upd p.q j r⟩) hx hs.out).mono ?_
        rintro r9 w9 ⟨rfl, hx2, hx3⟩
        replace hx3 := Below.trans HB hx3
        replace hx2 := Lib.hid hx2; replace hx3 := Lib.hid hx3; replace HL := Lib.hid HL; replace HB := Lib.hid HB
        go_wp2_with fail
        go_end0
        exact ⟨rfl, by rw [hact.out]; exact hx2.out, hx3.out⟩
end Go.Proofs.Ytjgmlnkbplgloaa
