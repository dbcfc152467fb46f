import Derived.Test.YtnggimkkjdipmaaLib
import Derived.Test.YtnggimkkjdipmaaTB26
namespace Go.Proofs.Ytnggimkkjdipmaa
open Go.RowKit
set_option linter.unusedVariables false
set_option linter.unusedSimpArgs false
/-! ### The order of words, plain -/
def cmpI (x y : Int) : Int := if x < y then -1 else if y < x then 1 else 0
theorem cmpI_lt (x y : Int) : cmpI x y < 0 ↔ x < y := by unfold cmpI; split <;> (try split) <;> omega
theorem cmpI_gt (x y : Int) : 0 < cmpI x y ↔ y < x := by unfold cmpI; split <;> (try split) <;> omega
theorem cmpI_eq (x y : Int) : cmpI x y = 0 ↔ x = y := by unfold cmpI; split <;> (try split) <;> omega
/-- slices.Compare. -/
def cmpL : List Int → List Int → Int
  | [], [] => 0
  | [], _ :: _ => -1
  | _ :: _, [] => 1
  | x :: a, y :: b => if cmpI x y = 0 then cmpL a b else cmpI x y
def byLen (a b : List Int) : Int := if cmpI a.length b.length = 0 then cmpL a b else cmpI a.length b.length
theorem cmpL_flip : ∀ (a b : List Int), cmpL b a = - cmpL a b
  | [], [] => rfl
  | [], _ :: _ => rfl
  | _ :: _, [] => rfl
  | x :: a, y :: b => by
    have h := cmpL_flip a b
    unfold cmpL
    by_cases e : x = y
    · subst e; rw [if_pos ((cmpI_eq x x).mpr rfl), if_pos ((cmpI_eq x x).mpr rfl), h]
    · rw [if_neg (fun h => e ((cmpI_eq x y).mp h)), if_neg (fun h => e ((cmpI_eq y x).mp h).symm)]
      unfold cmpI; split <;> (try split) <;> (try split) <;> omega
theorem cmpL_zero : ∀ (a b : List Int), cmpL a b = 0 ↔ a = b
  | [], [] => by simp [cmpL]
  | [], _ :: _ => by simp [cmpL]
  | _ :: _, [] => by simp [cmpL]
  | x :: a, y :: b => by
    have h := cmpL_zero a b
    unfold cmpL
    by_cases e : x = y
    · subst e; rw [if_pos ((cmpI_eq x x).mpr rfl), h]; simp
    · have this : ¬ cmpI x y = 0 := fun h => e ((cmpI_eq x y).mp h)
      rw [if_neg this]
      exact ⟨fun h => absurd h this, fun h => by injection h with h1 h2; exact absurd h1 e⟩
theorem cmpL_trans : ∀ (a b c : List Int), cmpL a b < 0 → cmpL b c < 0 → cmpL a c < 0
  | [], [], c, h, _ => by simp [cmpL] at h
  | [], _ :: _, [], _, h => by simp [cmpL] at h
  | [], _ :: _, _ :: _, _, _ => by simp [cmpL]
  | _ :: _, [], _, h, _ => by simp [cmpL] at h
  | _ :: _, _ :: _, [], _, h => by simp [cmpL] at h
  | x :: a, y :: b, z :: c, h1, h2 => by
    have ih := cmpL_trans a b c
    unfold cmpL at h1 h2 ⊢
    have a1 := cmpI_eq x y; have a2 := cmpI_eq y z; have a3 := cmpI_eq x z
    have b1 := cmpI_lt x y; have b2 := cmpI_lt y z; have b3 := cmpI_lt x z
    by_cases e1 : x = y <;> by_cases e2 : y = z
    · rw [if_pos (a1.mpr e1)] at h1; rw [if_pos (a2.mpr e2)] at h2; rw [if_pos (a3.mpr (e1.trans e2))]; exact ih h1 h2
    · rw [if_neg (fun h => e2 (a2.mp h))] at h2
      have : ¬ x = z := fun h => e2 (e1 ▸ h)
      rw [if_neg (fun h => this (a3.mp h))]
      rw [b3]; rw [b2] at h2; omega
    · rw [if_neg (fun h => e1 (a1.mp h))] at h1
      have : ¬ x = z := fun h => e1 (h.trans e2.symm)
      rw [if_neg (fun h => this (a3.mp h))]
      rw [b3]; rw [b1] at h1; omega
    · rw [if_neg (fun h => e1 (a1.mp h))] at h1
      rw [if_neg (fun h => e2 (a2.mp h))] at h2
      rw [b1] at h1; rw [b2] at h2
      rw [if_neg (fun h => by have := a3.mp h; omega), b3]; omega
theorem byLen_flip (a b : List Int) : byLen b a = - byLen a b := by
  unfold byLen
  by_cases e : (a.length : Int) = b.length
  · rw [if_pos ((cmpI_eq _ _).mpr e), if_pos ((cmpI_eq _ _).mpr e.symm), cmpL_flip]
  · rw [if_neg (fun h => e ((cmpI_eq _ _).mp h)), if_neg (fun h => e ((cmpI_eq _ _).mp h).symm)]
    unfold cmpI; split <;> (try split) <;> (try split) <;> omega
theorem byLen_zero (a b : List Int) : byLen a b = 0 ↔ a = b := by
  unfold byLen
  by_cases e : (a.length : Int) = b.length
  · rw [if_pos ((cmpI_eq _ _).mpr e), cmpL_zero]
  · have this : ¬ cmpI (a.length : Int) b.length = 0 := fun h => e ((cmpI_eq _ _).mp h)
    rw [if_neg this]
    exact ⟨fun h => absurd h this, fun h => absurd (by rw [h]) e⟩
theorem byLen_trans (a b c : List Int) (h1 : byLen a b < 0) (h2 : byLen b c < 0) : byLen a c < 0 := by
  unfold byLen at *
  have a1 := cmpI_eq (a.length : Int) b.length; have a2 := cmpI_eq (b.length : Int) c.length; have a3 := cmpI_eq (a.length : Int) c.length
  have b1 := cmpI_lt (a.length : Int) b.length; have b2 := cmpI_lt (b.length : Int) c.length; have b3 := cmpI_lt (a.length : Int) c.length
  by_cases e1 : (a.length : Int) = b.length <;> by_cases e2 : (b.length : Int) = c.length
  · rw [if_pos (a1.mpr e1)] at h1; rw [if_pos (a2.mpr e2)] at h2; rw [if_pos (a3.mpr (e1.trans e2))]; exact cmpL_trans a b c h1 h2
  · rw [if_neg (fun h => e2 (a2.mp h)), b2] at h2; rw [if_neg (fun h => by have := a3.mp h; omega), b3]; omega
  · rw [if_neg (fun h => e1 (a1.mp h)), b1] at h1; rw [if_neg (fun h => by have := a3.mp h; omega), b3]; omega
  · rw [if_neg (fun h => e1 (a1.mp h)), b1] at h1; rw [if_neg (fun h => e2 (a2.mp h)), b2] at h2; rw [if_neg (fun h => by have := a3.mp h; omega), b3]; omega
/-- Words that ascend, none twice. -/
def Asc (l : List (List Int)) : Prop := l.Pairwise fun a b => byLen a b < 0
theorem asc_eq : ∀ (l m : List (List Int)), Asc l → Asc m → (∀ x, x ∈ l ↔ x ∈ m) → l = m
  | [], [], _, _, _ => rfl
  | [], y :: m, _, _, h => by have := (h y).mpr (by simp); simp at this
  | x :: l, [], _, _, h => by have := (h x).mp (by simp); simp at this
  | x :: l, y :: m, hl, hm, h => by
    unfold Asc at hl hm
    rw [List.pairwise_cons] at hl hm
    have hxy : x = y := by
      have h1 := (h x).mp (by simp)
      have h2 := (h y).mpr (by simp)
      rcases List.mem_cons.mp h1 with e | e
      · exact e
      · rcases List.mem_cons.mp h2 with e' | e'
        · exact e'.symm
        · have := hm.1 x e; have := hl.1 y e'; have := byLen_flip x y; omega
    subst hxy
    congr 1
    refine asc_eq l m hl.2 hm.2 fun z => ?_
    constructor
    · intro hz
      have := (h z).mp (by simp [hz])
      rcases List.mem_cons.mp this with e | e
      · subst e; have := hl.1 z hz; have := (byLen_zero z z).mpr rfl; omega
      · exact e
    · intro hz
      have := (h z).mpr (by simp [hz])
      rcases List.mem_cons.mp this with e | e
      · subst e; have := hm.1 z hz; have := (byLen_zero z z).mpr rfl; omega
      · exact e
/-- .. a word put among them. -/
def insW (w : List Int) : List (List Int) → List (List Int)
  | [] => [w]
  | x :: l => if byLen x w < 0 then x :: insW w l else if x = w then x :: l else w :: x :: l
theorem mem_insW (w x : List Int) : ∀ l, x ∈ insW w l ↔ x = w ∨ x ∈ l
  | [] => by simp [insW]
  | y :: l => by
    have ih := mem_insW w x l
    unfold insW
    split
    · simp [ih]; exact ⟨fun h => by rcases h with h | h | h; exact .inr (.inl h); exact .inl h; exact .inr (.inr h), fun h => by rcases h with h | h | h; exact .inr (.inl h); exact .inl h; exact .inr (.inr h)⟩
    · split
      · rename_i h; subst h; simp
      · simp
theorem asc_insW (w : List Int) : ∀ l, Asc l → Asc (insW w l)
  | [], _ => by simp [insW, Asc]
  | y :: l, h => by
    have h' : Asc l := (List.pairwise_cons.mp h).2
    have h1 := (List.pairwise_cons.mp h).1
    unfold insW
    split
    · rename_i hy
      refine List.pairwise_cons.mpr ⟨fun z hz => ?_, asc_insW w l h'⟩
      rcases (mem_insW w z l).mp hz with e | e
      · subst e; exact hy
      · exact h1 z e
    · split
      · exact h
      · rename_i hy hne
        have hlt : byLen w y < 0 := by
          have := byLen_flip y w
          have : byLen y w ≠ 0 := fun e => hne ((byLen_zero y w).mp e)
          omega
        refine List.pairwise_cons.mpr ⟨fun z hz => ?_, h⟩
        rcases List.mem_cons.mp hz with e | e
        · subst e; exact hlt
        · exact byLen_trans _ _ _ hlt (h1 z e)
/-- Words sorted, doubles left out. -/
def onceF (l : List (List Int)) : List (List Int) := l.foldl (fun a w => insW w a) []
theorem onceF_from : ∀ (l a : List (List Int)), Asc a → Asc (l.foldl (fun a w => insW w a) a) ∧ ∀ x, x ∈ l.foldl (fun a w => insW w a) a ↔ x ∈ l ∨ x ∈ a
  | [], a, h => ⟨h, by simp⟩
  | w :: l, a, h => by
    obtain ⟨h1, h2⟩ := onceF_from l (insW w a) (asc_insW w a h)
    refine ⟨h1, fun x => ?_⟩
    rw [List.foldl_cons, h2, mem_insW]
    simp only [List.mem_cons]
    exact ⟨fun h => by rcases h with h | h | h; exact .inl (.inr h); exact .inl (.inl h); exact .inr h, fun h => by rcases h with (h | h) | h; exact .inr (.inl h); exact .inl h; exact .inr (.inr h)⟩
theorem onceF_asc (l : List (List Int)) : Asc (onceF l) := (onceF_from l [] List.Pairwise.nil).1
theorem onceF_mem (l : List (List Int)) (x : List Int) : x ∈ onceF l ↔ x ∈ l := by
  have := (onceF_from l [] List.Pairwise.nil).2 x
  simpa [onceF] using this
theorem onceF_snoc (l : List (List Int)) (w : List Int) : onceF (l ++ [w]) = insW w (onceF l) := by unfold onceF; rw [List.foldl_append]; rfl
theorem once_unique {l m : List (List Int)} (h : Asc l) (hm : ∀ x, x ∈ l ↔ x ∈ m) : l = onceF m := asc_eq _ _ h (onceF_asc m) (fun x => by rw [hm, onceF_mem])
/-- Equal neighbours, the later ones left out. -/
def compL : List (List Int) → List (List Int)
  | [] => []
  | [x] => [x]
  | x :: y :: l => if x = y then compL (y :: l) else x :: compL (y :: l)
theorem compL_mem : ∀ (l : List (List Int)) (z : List Int), z ∈ compL l ↔ z ∈ l
  | [], z => by simp [compL]
  | [x], z => by simp [compL]
  | x :: y :: l, z => by
    have ih := compL_mem (y :: l) z
    unfold compL
    split
    · rename_i e; subst e; rw [ih]; simp
    · rw [List.mem_cons, ih]; simp only [List.mem_cons]
theorem compL_asc : ∀ (l : List (List Int)), (l.Pairwise fun a b => ¬ byLen b a < 0) → Asc (compL l)
  | [], _ => List.Pairwise.nil
  | [x], _ => by simp [compL, Asc]
  | x :: y :: l, h => by
    have h2 := (List.pairwise_cons.mp h).2
    have h1 := (List.pairwise_cons.mp h).1
    have ih := compL_asc (y :: l) h2
    unfold compL
    split
    · exact ih
    · rename_i hne
      refine List.pairwise_cons.mpr ⟨fun z hz => ?_, ih⟩
      have hz' := (compL_mem _ z).mp hz
      have hxy : byLen x y < 0 := by
        have := h1 y (by simp); have := byLen_flip x y
        have : byLen x y ≠ 0 := fun e => hne ((byLen_zero x y).mp e)
        omega
      rcases List.mem_cons.mp hz' with e | e
      · subst e; exact hxy
      · have h3 := (List.pairwise_cons.mp h2).1 z e
        by_cases e2 : y = z
        · subst e2; exact hxy
        · have := byLen_flip y z
          have : byLen y z ≠ 0 := fun e => e2 ((byLen_zero y z).mp e)
          exact byLen_trans _ _ _ hxy (by omega)
theorem comp_once {l m : List (List Int)} (h : l.Pairwise fun a b => ¬ byLen b a < 0) (hm : ∀ x, x ∈ l ↔ x ∈ m) : compL l = onceF m := once_unique (compL_asc l h) (fun x => by rw [compL_mem, hm])
end Go.Proofs.Ytnggimkkjdipmaa
namespace Go.Proofs.Ytnggimkkjdipmaa
open Go.RowKit
set_option linter.unusedVariables false
set_option linter.unusedSimpArgs false
set_option maxHeartbeats 16000000
set_option maxRecDepth 100000
/-! ### The order of words, as the program reckons -/
theorem ret_i {a b : Int} (h : a = b) : Ending.returned (.int .i64 a) = .returned (.int .i64 b) := by rw [h]
theorem nan_any (x : Int) (w : World) : Calls Try.prog 129 #[.int .i64 x] w fun e w' => e = .returned (.bool false) ∧ w = w' := by
  have hx : (x != x) = false := by simp
  go_enter Try.func129, Try.ntmps129
  go_wp2_with fail
  go_ret
  exact ⟨rfl, rfl⟩
theorem cmpi_any (x y : Int) (w : World) : Calls Try.prog 108 #[.int .i64 x, .int .i64 y] w fun e w' => e = .returned (.int .i64 (cmpI x y)) ∧ w = w' := by
  have N := fun v => nan_any v w
  obtain ⟨c, hc⟩ : ∃ c, cmpI x y = c := ⟨_, rfl⟩
  rw [hc]
  unfold cmpI at hc
  replace N := Lib.hid N
  by_cases h1 : x < y
  · rw [if_pos h1] at hc
    subst hc
    go_enter Try.func108, Try.ntmps108
    go_wp2_with (first | (go_at_call 129; refine (N.out _).mono ?_; rintro e w' ⟨rfl, rfl⟩))
    go_ret
    exact ⟨rfl, rfl⟩
  · rw [if_neg h1] at hc
    by_cases h2 : y < x
    · rw [if_pos h2] at hc
      subst hc
      go_enter Try.func108, Try.ntmps108
      go_wp2_with (first | (go_at_call 129; refine (N.out _).mono ?_; rintro e w' ⟨rfl, rfl⟩))
      go_ret
      exact ⟨rfl, rfl⟩
    · rw [if_neg h2] at hc
      subst hc
      go_enter Try.func108, Try.ntmps108
      go_wp2_with (first | (go_at_call 129; refine (N.out _).mono ?_; rintro e w' ⟨rfl, rfl⟩))
      go_ret
      exact ⟨rfl, rfl⟩
/-- cmp.Or of two numbers. -/
theorem or_any (x y : Int) (b : Nat) (w : World) (hP : Pt w b 3 [.int .i64 x, .int .i64 y]) : Calls Try.prog 109 #[.slice (some ⟨b, 0, none⟩) 2 2] w fun e w' => e = .returned (.int .i64 (if x = 0 then y else x)) ∧ w = w' := by
  obtain ⟨c, hc⟩ : ∃ c, (if x = 0 then y else x) = c := ⟨_, rfl⟩
  rw [hc]
  replace hP := Lib.hid hP; replace hc := Lib.hid hc
  go_enter Try.func109, Try.ntmps109
  go_wp2_with fail
  go_loopg [8] 3 (fun k v8 wr => ∃ i : Nat, i ≤ 2 ∧ k + i = 3 ∧ v8 = .int .i64 i ∧ (1 ≤ i → x = 0) ∧ (2 ≤ i → y = 0) ∧ w = wr)
  case atStart => exact ⟨0, by omega, by omega, rfl, by omega, by omega, rfl⟩
  case round =>
    obtain ⟨i, hi, hk, rfl, h1, h2, rfl⟩ := hrel
    by_cases hlt : i < 2
    · have hltI : (i : Int) < 2 := by omega
      obtain ⟨z, hz, hzx⟩ : ∃ z, w.cell? ⟨b, i, none⟩ = some (.int .i64 z) ∧ (i = 0 ∧ z = x ∨ i = 1 ∧ z = y) := by
        rcases (by omega : i = 0 ∨ i = 1) with rfl | rfl
        · exact ⟨x, hP.out.cell 0, .inl ⟨rfl, rfl⟩⟩
        · exact ⟨y, hP.out.cell 1, .inr ⟨rfl, rfl⟩⟩
      by_cases hz0 : z = 0
      · as_aux_lemma =>
        have hzb : (z != 0) = false := by simp [hz0]
        have g1 : 1 ≤ i + 1 → x = 0 := fun _ => by
          rcases hzx with ⟨_, e⟩ | ⟨e, _⟩
          · omega
          · exact h1 (by omega)
        have g2 : 2 ≤ i + 1 → y = 0 := fun h => by
          rcases hzx with ⟨e, _⟩ | ⟨_, e⟩
          · omega
          · omega
        replace h1 := Lib.hid h1; replace h2 := Lib.hid h2; replace g1 := Lib.hid g1; replace g2 := Lib.hid g2; replace hzx := Lib.hid hzx; replace hz0 := Lib.hid hz0
        go_wp2_with fail
        go_roundg (gk - 1)
        case measure => omega
        case rel => exact ⟨i + 1, by omega, by omega, by go_num, g1.out, g2.out, rfl⟩
      · as_aux_lemma =>
        have hzb : (z != 0) = true := by simp [hz0]
        have hcz : z = c := by
          rw [← hc.out]
          rcases hzx with ⟨_, e⟩ | ⟨e, e2⟩
          · rw [if_neg (by rw [← e]; exact hz0)]; exact e
          · rw [if_pos (h1 (by omega))]; exact e2
        replace h1 := Lib.hid h1; replace h2 := Lib.hid h2; replace hzx := Lib.hid hzx; replace hz0 := Lib.hid hz0; replace hcz := Lib.hid hcz
        go_wp2_with fail
        go_ret
        exact ⟨ret_i hcz.out, rfl⟩
    · as_aux_lemma =>
      have hltI : ¬ (i : Int) < 2 := by omega
      have hc0 : c = 0 := by rw [← hc.out, if_pos (h1 (by omega))]; exact h2 (by omega)
      replace h1 := Lib.hid h1; replace h2 := Lib.hid h2; replace hc0 := Lib.hid hc0
      go_wp2_with fail
      go_ret
      exact ⟨ret_i hc0.out.symm, rfl⟩
theorem cmpL_drop (a b : List Int) : ∀ (i : Nat), a.take i = b.take i → i ≤ a.length → i ≤ b.length → cmpL a b = cmpL (a.drop i) (b.drop i) := by
  induction a generalizing b with
  | nil => intro i _ h _; have : i = 0 := by simpa using h
           subst this; simp
  | cons x a ih =>
    intro i h h1 h2
    cases i with
    | zero => simp
    | succ i =>
      cases b with
      | nil => simp at h2
      | cons y b =>
        simp only [List.take_succ_cons, List.cons.injEq] at h
        obtain ⟨rfl, h⟩ := h
        rw [List.drop_succ_cons, List.drop_succ_cons, ← ih b i h (by simpa using h1) (by simpa using h2)]
        conv => lhs; unfold cmpL
        rw [if_pos ((cmpI_eq x x).mpr rfl)]
theorem cmpl_any (v1 v2 : Value) (a b : List Int) (w : World) (h1 : NIn w v1 a) (h2 : NIn w v2 b) (ha : a.length ≤ 1000000) (hb : b.length ≤ 1000000) :
    Calls Try.prog 98 #[v1, v2] w fun e w' => e = .returned (.int .i64 (cmpL a b)) ∧ w = w' := by
  obtain ⟨o1, c1, rfl, hl1⟩ := h1
  obtain ⟨o2, c2, rfl, hl2⟩ := h2
  obtain ⟨c, hc⟩ : ∃ c, cmpL a b = c := ⟨_, rfl⟩
  rw [hc]
  have CI := fun x y => cmpi_any x y w
  replace hl1 := Lib.hid hl1; replace hl2 := Lib.hid hl2; replace hc := Lib.hid hc; replace CI := Lib.hid CI
  go_enter Try.func98, Try.ntmps98
  go_wp2_with fail
  go_loopg [11] (a.length + 1) (fun k v11 wr => ∃ i : Nat, i ≤ a.length ∧ i ≤ b.length ∧ k + i = a.length + 1 ∧ v11 = .int .i64 i ∧ a.take i = b.take i ∧ w = wr)
  case atStart => exact ⟨0, by omega, by omega, by omega, rfl, by simp, rfl⟩
  case round =>
    obtain ⟨i, hi, hib, hk, rfl, htk, rfl⟩ := hrel
    have hdr := cmpL_drop a b i htk hi hib
    rw [hc.out] at hdr
    by_cases hlt : i < a.length
    · have hltI : (i : Int) < a.length := by omega
      obtain ⟨B1, f1, rfl, hB1, x1⟩ := hl1.out i hlt
      have hda : a.drop i = a[i] :: a.drop (i + 1) := List.drop_eq_getElem_cons hlt
      by_cases hltb : i < b.length
      · have hltbI : (i : Int) < b.length := by omega
        obtain ⟨B2, f2, rfl, hB2, y1⟩ := hl2.out i hltb
        have hdb : b.drop i = b[i] :: b.drop (i + 1) := List.drop_eq_getElem_cons hltb
        rw [hda, hdb] at hdr
        have hC := CI.out a[i] b[i]
        have hts := List.take_succ_eq_append_getElem hlt
        have htsb := List.take_succ_eq_append_getElem hltb
        obtain ⟨x, hx⟩ : ∃ x, a[i] = x := ⟨_, rfl⟩
        obtain ⟨y, hy⟩ : ∃ x, b[i] = x := ⟨_, rfl⟩
        rw [hx] at x1 hC hdr hts
        rw [hy] at y1 hC hdr htsb
        unfold cmpL at hdr
        have heq := cmpI_eq x y
        obtain ⟨q, hq⟩ : ∃ q, cmpI x y = q := ⟨_, rfl⟩
        rw [hq] at hC hdr heq
        by_cases hq0 : q = 0
        · as_aux_lemma =>
          have hqb : (q != 0) = false := by simp [hq0]
          have htk2 : a.take (i + 1) = b.take (i + 1) := by rw [hts, htsb, htk, heq.mp hq0]
          replace hdr := Lib.hid hdr; replace hda := Lib.hid hda; replace hdb := Lib.hid hdb; replace hts := Lib.hid hts; replace htsb := Lib.hid htsb; replace hx := Lib.hid hx; replace hy := Lib.hid hy; replace heq := Lib.hid heq; replace hq := Lib.hid hq; replace hq0 := Lib.hid hq0; replace htk := Lib.hid htk; replace htk2 := Lib.hid htk2; replace hC := Lib.hid hC
          go_wp2_with fail
          refine hC.out.mono ?_
          rintro e w' ⟨rfl, rfl⟩
          go_wp2_with fail
          go_roundg (gk - 1)
          case measure => omega
          case rel => exact ⟨i + 1, by omega, by omega, by omega, by go_num, htk2.out, rfl⟩
        · as_aux_lemma =>
          rw [if_neg hq0] at hdr
          have hqb : (q != 0) = true := by simp [hq0]
          replace hdr := Lib.hid hdr; replace hda := Lib.hid hda; replace hdb := Lib.hid hdb; replace hts := Lib.hid hts; replace htsb := Lib.hid htsb; replace hx := Lib.hid hx; replace hy := Lib.hid hy; replace heq := Lib.hid heq; replace hq := Lib.hid hq; replace hq0 := Lib.hid hq0; replace htk := Lib.hid htk; replace hC := Lib.hid hC
          go_wp2_with fail
          refine hC.out.mono ?_
          rintro e w' ⟨rfl, rfl⟩
          go_wp2_with fail
          go_ret
          exact ⟨ret_i hdr.out.symm, rfl⟩
      · as_aux_lemma =>
        have hltbI : ¬ (i : Int) < b.length := by omega
        have hdb : b.drop i = [] := List.drop_eq_nil_of_le (by omega)
        rw [hda, hdb] at hdr
        unfold cmpL at hdr
        replace hdr := Lib.hid hdr; replace hda := Lib.hid hda; replace hdb := Lib.hid hdb; replace htk := Lib.hid htk
        go_wp2_with fail
        go_ret
        exact ⟨ret_i hdr.out.symm, rfl⟩
    · have hltI : ¬ (i : Int) < a.length := by omega
      have hda : a.drop i = [] := List.drop_eq_nil_of_le (by omega)
      have hie : i = a.length := by omega
      by_cases hltb : a.length < b.length
      · as_aux_lemma =>
        have hdb : b.drop i = b[i] :: b.drop (i + 1) := List.drop_eq_getElem_cons (by omega)
        rw [hda, hdb] at hdr
        unfold cmpL at hdr
        replace hdr := Lib.hid hdr; replace hda := Lib.hid hda; replace hdb := Lib.hid hdb; replace htk := Lib.hid htk; replace hie := Lib.hid hie
        have hltbI : (a.length : Int) < b.length := by omega
        go_wp2_with fail
        go_ret
        exact ⟨ret_i hdr.out.symm, rfl⟩
      · as_aux_lemma =>
        have hdb : b.drop i = [] := List.drop_eq_nil_of_le (by omega)
        rw [hda, hdb] at hdr
        unfold cmpL at hdr
        replace hdr := Lib.hid hdr; replace hda := Lib.hid hda; replace hdb := Lib.hid hdb; replace htk := Lib.hid htk; replace hie := Lib.hid hie
        have hltbI : ¬ (a.length : Int) < b.length := by omega
        go_wp2_with fail
        go_ret
        exact ⟨ret_i hdr.out.symm, rfl⟩
theorem bylen_any (v1 v2 : Value) (a b : List Int) (w : World) (h1 : NIn w v1 a) (h2 : NIn w v2 b) (ha : a.length ≤ 1000000) (hb : b.length ≤ 1000000) :
    Calls Try.prog 99 #[v1, v2] w fun e w' => e = .returned (.int .i64 (byLen a b)) ∧ ∃ o, w' = w.alloc o := by
  have CI := fun x y => cmpi_any x y w
  have CL := cmpl_any v1 v2 a b w h1 h2 ha hb
  obtain ⟨o1, c1, rfl, hl1⟩ := h1
  obtain ⟨o2, c2, rfl, hl2⟩ := h2
  have OR := fun x y => or_any x y w.heap.size (w.alloc (.cells #[.int .i64 x, .int .i64 y] 3)) (Pt.newA _ _ _)
  unfold byLen
  clear hl1 hl2
  obtain ⟨p, hp⟩ : ∃ p, cmpI a.length b.length = p := ⟨_, rfl⟩
  obtain ⟨q, hq⟩ : ∃ q, cmpL a b = q := ⟨_, rfl⟩
  have CI2 := CI a.length b.length
  rw [hp] at CI2
  rw [hq] at CL
  rw [hp, hq]
  have OR2 := OR p q
  obtain ⟨c, hc⟩ : ∃ c, (if p = 0 then q else p) = c := ⟨_, rfl⟩
  rw [hc] at OR2 ⊢
  replace CI := Lib.hid CI; replace CI2 := Lib.hid CI2; replace CL := Lib.hid CL; replace OR := Lib.hid OR; replace OR2 := Lib.hid OR2; replace hp := Lib.hid hp; replace hq := Lib.hid hq; replace hc := Lib.hid hc
  go_enter Try.func99, Try.ntmps99
  go_wp2_with (first | (go_at_call 108; refine CI2.out.mono ?_; rintro e w' ⟨rfl, rfl⟩) | (go_at_call 98; refine CL.out.mono ?_; rintro e w' ⟨rfl, rfl⟩) | (go_at_call 109; refine OR2.out.mono ?_; rintro e w' ⟨rfl, rfl⟩))
  go_ret
  exact ⟨rfl, _, rfl⟩
end Go.Proofs.Ytnggimkkjdipmaa
namespace Go.Proofs.Ytnggimkkjdipmaa
open Go.RowKit
set_option linter.unusedVariables false
set_option linter.unusedSimpArgs false
set_option maxHeartbeats 16000000
set_option maxRecDepth 100000
/-! ### Words in memory, their row of one's own; sorted -/
structure Wds (q : Nat → Prop) (w : World) (v : Value) (ps : List (Value × List Int)) (bo : Option Nat) : Prop where
  row : Row 1 w v ps.length (ps.map (·.1)) bo
  each : ∀ p ∈ ps, NInB (fun b => q b ∧ b ∉ bo.toList) w p.1 p.2
  qo : ∀ z, bo = some z → q z
theorem Wds.nil (q : Nat → Prop) (w : World) (o : Option Addr) : Wds q w (.slice o 0 0) [] none := ⟨Row.nil 1 w o, (fun p h => by simp at h), (fun z h => by cases h)⟩
theorem Wds.fr {q : Nat → Prop} {w W : World} {v : Value} {ps : List (Value × List Int)} {bo : Option Nat} (h : Wds q w v ps bo) {ex : List Nat} (f : Fr ex w W) (hx : ∀ x ∈ ex, ¬ q x) : Wds q W v ps bo :=
  ⟨h.row.fr f (fun z hz hm => hx z hm (h.qo z hz)), fun p hp => (h.each p hp).frq f (fun b _ hq => ⟨fun hm => hx b hm hq.1, hq⟩), h.qo⟩
theorem Wds.sin {q : Nat → Prop} {w : World} {v : Value} {ps : List (Value × List Int)} {bo : Option Nat} (h : Wds q w v ps bo) : SIn w v (ps.map (·.2)) := by
  rcases h.row with ⟨_, h2, _, o, rfl⟩ | ⟨b, off, cap, hb, rfl, h3, h4, h5, h6, h7⟩
  · exact ⟨o, 0, by rw [List.length_map, h2], fun i hi => by rw [List.length_map] at hi; omega⟩
  · refine ⟨_, cap, by rw [List.length_map], fun i hi => ?_⟩
    have hi' : i < ps.length := by simpa using hi
    refine ⟨b, off, ps[i].1, rfl, h4, ?_, ?_⟩
    · rw [h7 i (by omega)]; simp [hi']
    · have := (h.each ps[i] (List.getElem_mem hi')).nin
      simpa using this
end Go.Proofs.Ytnggimkkjdipmaa
