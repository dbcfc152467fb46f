import Derived.Test.YtehmfnpiidcbpaaGS7
import Derived.Test.YtehmfnpiidcbpaaGS8
import Derived.Test.YtehmfnpiidcbpaaGS4
namespace Go.Proofs.Ytehmfnpiidcbpaa
open Go.RowKit
set_option linter.unusedVariables false
set_option linter.unusedSimpArgs false
set_option maxHeartbeats 16000000
set_option maxRecDepth 100000
/-! ### The operations on sets -/
/-- A new list of ranges whose numbers are those of m. -/
def NewR (m : Int → Prop) (w : World) (e : Ending) (w' : World) : Prop := ∃ L v, e = .returned v ∧ Nf L ∧ (∀ x, inS L x ↔ m x) ∧ L.length ≤ 40000 ∧ PIn w' v L ∧ Fr [] w w'
theorem okAll_ends {l : List (Int × Int)} (h1 : Nf l) (h2 : Bd l) : ∀ r ∈ l, r.1 ≤ r.2 ∧ -1000000000000000 ≤ r.1 ∧ r.2 ≤ 1000000000000000 := fun r hr => by
  have h := h1.1 r hr
  have a := h2 r.1 ⟨r, hr, Int.le_refl _, h⟩
  have b := h2 r.2 ⟨r, hr, h, Int.le_refl _⟩
  exact ⟨h, a.1, b.2⟩
theorem RowR.pin {w : World} {L : List (Int × Int)} {e : Ending} {w' : World} (h : RowR w L e w') : ∃ v, e = .returned v ∧ PIn w' v L ∧ Fr [] w w' := by
  obtain ⟨v, bo, h1, h2, _, h4⟩ := h
  exact ⟨v, h1, h2.pinP, h4⟩
theorem cf_union1 : ∀ W args, (callFunc 31 args).run Try.prog W = .ok (.enter 31 args) W := by
  intro W args
  have hb : Try.f31.body.isNone = false := by kernel_rfl
  simp [callFunc, go_sem, Try.func31]
  rw [if_neg (by decide +kernel), if_neg (fun h => by rw [h] at hb; cases hb)]
theorem cf_except1 : ∀ W args, (callFunc 35 args).run Try.prog W = .ok (.enter 35 args) W := by
  intro W args
  have hb : Try.f35.body.isNone = false := by kernel_rfl
  simp [callFunc, go_sem, Try.func35]
  rw [if_neg (by decide +kernel), if_neg (fun h => by rw [h] at hb; cases hb)]
theorem cf_common : ∀ W args, (callFunc 34 args).run Try.prog W = .ok (.enter 34 args) W := by
  intro W args
  have hb : Try.f34.body.isNone = false := by kernel_rfl
  simp [callFunc, go_sem, Try.func34]
  rw [if_neg (by decide +kernel), if_neg (fun h => by rw [h] at hb; cases hb)]
theorem cf_has1 : ∀ W args, (callFunc 38 args).run Try.prog W = .ok (.enter 38 args) W := by
  intro W args
  have hb : Try.f38.body.isNone = false := by kernel_rfl
  simp [callFunc, go_sem, Try.func38]
  rw [if_neg (by decide +kernel), if_neg (fun h => by rw [h] at hb; cases hb)]
theorem union1_any (va vb : Value) (a b : List (Int × Int)) (w : World) (ha : PIn w va a) (hb : PIn w vb b) (a1 : Nf a ∧ Bd a ∧ a.length ≤ 100) (b1 : Nf b ∧ Bd b ∧ b.length ≤ 100) :
    Calls Try.prog 31 #[va, vb] w (NewR (unM a b) w) := by
  obtain ⟨oa, ca, rfl, hla⟩ := ha
  obtain ⟨ob, cb, rfl, hlb⟩ := hb
  have hA : PIn w (.slice oa a.length ca) a := ⟨_, _, rfl, hla⟩
  have hB : PIn w (.slice ob b.length cb) b := ⟨_, _, rfl, hlb⟩
  clear hla hlb
  obtain ⟨A, hAe⟩ : ∃ x, Value.slice oa a.length ca = x := ⟨_, rfl⟩
  obtain ⟨B, hBe⟩ : ∃ x, Value.slice ob b.length cb = x := ⟨_, rfl⟩
  obtain ⟨w1, hw1⟩ : ∃ x, w.alloc (.cells #[Value.slice oa a.length ca, Value.slice ob b.length cb] 22) = x := ⟨_, rfl⟩
  have P1 := Pt.newA w 22 #[Value.slice oa a.length ca, Value.slice ob b.length cb]
  rw [hw1] at P1
  have F1 : Fr [] w w1 := by rw [← hw1]; exact (Fr.refl [] w).alloc _
  obtain ⟨q1, hq1⟩ : ∃ x, w.heap.size = x := ⟨_, rfl⟩
  rw [hq1] at P1
  have hLs : LsI w1 (.slice (some ⟨q1, 0, none⟩) 2 2) [(Value.slice oa a.length ca, a), (Value.slice ob b.length cb, b)] := by
    refine ⟨⟨_, _, rfl, fun i hi => ?_⟩, fun p hp => ?_⟩
    · refine ⟨q1, 0, rfl, P1.lt, ?_⟩
      rw [P1.cell]
      match i, hi with
      | 0, _ => rfl
      | 1, _ => rfl
    · simp at hp
      rcases hp with rfl | rfl
      · exact hA.fr F1
      · exact hB.fr F1
  have hcl : ∀ i, i ≤ 2 → (catL [(Value.slice oa a.length ca, a), (Value.slice ob b.length cb, b)] i).length ≤ 40000 := fun i hi => by
    have := a1.2.2; have := b1.2.2
    match i, hi with
    | 0, _ => simp [catL]
    | 1, _ => simp [catL]; omega
    | 2, _ => simp [catL]; omega
  have CC := concat_any _ _ w1 hLs (by simp) (fun i hi => hcl i (by simpa using hi)) (fun p hp => by
    have := a1.2.2; have := b1.2.2
    simp at hp
    rcases hp with rfl | rfl
    · show a.length ≤ 40000; omega
    · show b.length ≤ 40000; omega)
  have ecat : catL [(Value.slice oa a.length ca, a), (Value.slice ob b.length cb, b)] 2 = a ++ b := by simp [catL]
  rw [show [(Value.slice oa a.length ca, a), (Value.slice ob b.length cb, b)].length = 2 from rfl, ecat] at CC
  clear hLs hcl ecat hAe hBe
  replace hA := Lib.hid hA; replace hB := Lib.hid hB; replace P1 := Lib.hid P1; replace F1 := Lib.hid F1; replace CC := Lib.hid CC; replace a1 := Lib.hid a1; replace b1 := Lib.hid b1
  go_enter Try.func31, Try.ntmps31
  go_wp2_with fail
  refine (CC.out).mono ?_
  rintro e w2 ⟨v2, b2, rfl, hr2, hb2, f2⟩
  have TI := tidy_any v2 (a ++ b) b2 w2 hr2 (by have := a1.out.2.2; have := b1.out.2.2; simp; omega) (fun r hr => by
    rcases List.mem_append.1 hr with h | h
    · exact okAll_ends a1.out.1 a1.out.2.1 r h
    · exact okAll_ends b1.out.1 b1.out.2.1 r h)
  replace hr2 := Lib.hid hr2; replace hb2 := Lib.hid hb2; replace f2 := Lib.hid f2; replace TI := Lib.hid TI
  go_wp2_with fail
  refine (TI.out).mono ?_
  rintro e w3 ⟨L, v3, b3, rfl, n3, m3, l3, r3, z3, f3⟩
  have GO : NewR (unM a b) w (.returned v3) w3 := ⟨L, v3, rfl, n3, fun x => (m3 x).trans (inS_app a b x), by
    have := a1.out.2.2; have := b1.out.2.2; simp at l3; omega, r3.pinP, (F1.out.trans f2.out).step f3 (fun z hz => .inr (by
      have := hb2.out z (by simpa using hz); have := F1.out.size; omega))⟩
  replace n3 := Lib.hid n3; replace m3 := Lib.hid m3; replace l3 := Lib.hid l3; replace r3 := Lib.hid r3; replace z3 := Lib.hid z3; replace f3 := Lib.hid f3; replace GO := Lib.hid GO
  go_wp2_with fail
  go_ret
  exact GO.out
theorem comF_len : ∀ (n : Nat) (s t : List Rg), (comF n s t).length ≤ n
  | 0, s, t => by cases s <;> cases t <;> simp [comF]
  | n + 1, [], t => by simp [comF]
  | n + 1, s :: s', [] => by simp [comF]
  | n + 1, p :: s, q :: t => by
    unfold comF
    have h1 := comF_len n s (q :: t)
    have h2 := comF_len n (p :: s) t
    rw [List.length_append]
    split <;> split <;> simp <;> omega
theorem comF_le40 (a b : List Rg) (h1 : a.length ≤ 20000) (h2 : b.length ≤ 20000) : (comF (a.length + b.length) a b).length ≤ 40000 := by
  have := comF_len (a.length + b.length) a b
  omega
theorem outF_len : ∀ (s : List Rg) (lo : Int), (outF lo s).length ≤ s.length + 1
  | [], lo => by unfold outF; split <;> simp
  | r :: s, lo => by
    unfold outF
    have := outF_len s (r.2 + 1)
    rw [List.length_append, List.length_cons]
    split <;> simp <;> omega
theorem meet_any (va vb : Value) (a b : List (Int × Int)) (w : World) (ha : PIn w va a) (hb : PIn w vb b) (a1 : Nf a ∧ Bd a ∧ a.length ≤ 100) (b1 : Nf b ∧ Bd b ∧ b.length ≤ 100) :
    Calls Try.prog 34 #[va, vb] w (NewR (meM a b) w) := by
  have h1 := a1.2.2; have h2 := b1.2.2
  refine (common_any va vb a b w ha hb (by omega) (by omega)).mono fun e w' h => ?_
  obtain ⟨v, h3, h4, h5⟩ := h.pin
  obtain ⟨n1, n2⟩ := comF_law (a.length + b.length) a b (Nat.le_refl _) a1.1 b1.1
  exact ⟨_, v, h3, n1, n2, comF_le40 a b (by omega) (by omega), h4, h5⟩
theorem except1_any (va vb : Value) (a b : List (Int × Int)) (w : World) (ha : PIn w va a) (hb : PIn w vb b) (a1 : Nf a ∧ Bd a ∧ a.length ≤ 100) (b1 : Nf b ∧ Bd b ∧ b.length ≤ 100) :
    Calls Try.prog 35 #[va, vb] w (NewR (exM a b) w) := by
  have h1 := a1.2.2; have h2 := b1.2.2
  obtain ⟨oa, ca, rfl, hla⟩ := ha
  obtain ⟨ob, cb, rfl, hlb⟩ := hb
  have hA : PIn w (.slice oa a.length ca) a := ⟨_, _, rfl, hla⟩
  have hB : PIn w (.slice ob b.length cb) b := ⟨_, _, rfl, hlb⟩
  clear hla hlb
  have CO := outside_any _ b w hB (by omega) (fun r hr => by have := okAll_ends b1.1 b1.2.1 r hr; omega)
  obtain ⟨o1, o2⟩ := outF_law b (-1000000000000000) b1.1 (fun x hx => b1.2.1 x hx)
  have o3 := outF_len b (-1000000000000000)
  replace hA := Lib.hid hA; replace hB := Lib.hid hB; replace CO := Lib.hid CO; replace a1 := Lib.hid a1; replace b1 := Lib.hid b1; replace o1 := Lib.hid o1; replace o2 := Lib.hid o2
  go_enter Try.func35, Try.ntmps35
  go_wp2_with fail
  refine (CO.out).mono ?_
  intro e w2 h2
  obtain ⟨v2, rfl, p2, f2⟩ := h2.pin
  have CM := common_any _ v2 a _ w2 (hA.out.fr f2) p2 (by omega) (by omega)
  replace h2 := Lib.hid h2; replace p2 := Lib.hid p2; replace f2 := Lib.hid f2; replace CM := Lib.hid CM
  go_wp2_with fail
  refine (CM.out).mono ?_
  intro e w3 h3
  obtain ⟨v3, rfl, p3, f3⟩ := h3.pin
  obtain ⟨n1, n2⟩ := comF_law (a.length + (outF (-1000000000000000) b).length) a _ (Nat.le_refl _) a1.out.1 o1.out
  have GO : NewR (exM a b) w (.returned v3) w3 := ⟨_, v3, rfl, n1, fun x => by
    rw [n2, o2.out]; unfold exM
    constructor
    · rintro ⟨h1, _, _, h3⟩; exact ⟨h1, h3⟩
    · rintro ⟨h1, h3⟩; have := a1.out.2.1 x h1; exact ⟨h1, this.1, this.2, h3⟩, comF_le40 a _ (by omega) (by omega), p3, f2.out.trans f3⟩
  replace h3 := Lib.hid h3; replace p3 := Lib.hid p3; replace f3 := Lib.hid f3; replace GO := Lib.hid GO; replace n1 := Lib.hid n1; replace n2 := Lib.hid n2
  go_wp2_with fail
  go_ret
  exact GO.out
end Go.Proofs.Ytehmfnpiidcbpaa
