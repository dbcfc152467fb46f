import Derived.Test.YtehmfnpiidcbpaaGS2
import Derived.Test.YtehmfnpiidcbpaaGS6
namespace Go.Proofs.Ytehmfnpiidcbpaa
open Go.RowKit
set_option linter.unusedVariables false
set_option linter.unusedSimpArgs false
set_option maxHeartbeats 16000000
set_option maxRecDepth 100000
/-! ### tidy -/
theorem tidF_len : ∀ (t : List Rg) (c : Rg), (tidF c t).length ≤ t.length + 1
  | [], c => by simp [tidF]
  | r :: t, c => by
    unfold tidF
    split
    · have := tidF_len t (c.1, max c.2 r.2); simp only [List.length_cons]; omega
    · have := tidF_len t r; simp only [List.length_cons]; omega
theorem tidyF_len (t : List Rg) : (tidyF t).length ≤ t.length := by
  cases t with
  | nil => simp [tidyF]
  | cons c t => exact tidF_len t c
/-- What tidy still has to do. -/
structure TidI (out rest R : List Rg) : Prop where
  none : out = [] → tidyF rest = R
  some : ∀ pre c, out = pre ++ [c] → pre ++ tidF c rest = R
theorem TidI.join {pre : List Rg} {c r : Rg} {rest R : List Rg} (h : TidI (pre ++ [c]) (r :: rest) R) (hc : r.1 ≤ c.2 + 1) {m : Int} (hm : max c.2 r.2 = m) : TidI (pre ++ [(c.1, m)]) rest R := by
  refine ⟨fun e => by simp at e, fun pre' c' e => ?_⟩
  have := h.some pre c rfl
  unfold tidF at this
  rw [if_pos hc, hm] at this
  obtain ⟨rfl, e2⟩ := List.append_inj' e rfl
  cases e2
  exact this
theorem TidI.next {pre : List Rg} {c r : Rg} {rest R : List Rg} (h : TidI (pre ++ [c]) (r :: rest) R) (hc : ¬ r.1 ≤ c.2 + 1) : TidI (pre ++ [c] ++ [r]) rest R := by
  refine ⟨fun e => by simp at e, fun pre' c' e => ?_⟩
  have := h.some pre c rfl
  unfold tidF at this
  rw [if_neg hc] at this
  obtain ⟨rfl, e2⟩ := List.append_inj' e rfl
  cases e2
  simpa using this
theorem TidI.first {r : Rg} {rest R : List Rg} (h : TidI [] (r :: rest) R) : TidI ([] ++ [r]) rest R := by
  refine ⟨fun e => by simp at e, fun pre' c' e => ?_⟩
  have := h.none rfl
  obtain ⟨rfl, e2⟩ := List.append_inj' (s₁ := []) e rfl
  cases e2
  exact this
theorem TidI.done {out R : List Rg} (h : TidI out [] R) : out = R := by
  rcases List.eq_nil_or_concat out with rfl | ⟨pre, c, rfl⟩
  · exact h.none rfl
  · have := h.some pre c (by simp)
    simpa [tidF] using this
theorem Row.lastP {w : World} {v : Value} {pre : List (Int × Int)} {c : Int × Int} {bo : Option Nat} (h : Row 2 w v (pre ++ [c]).length (pcells (pre ++ [c])) bo) :
    ∃ b off cap, bo = some b ∧ v = .slice (some ⟨b, off, none⟩) (pre.length + 1) cap ∧ b < w.heap.size ∧ w.cell? ⟨b, off + pre.length * 2 + 1, none⟩ = some (.int .i64 c.2) ∧ w.frozen? ⟨b, off + pre.length * 2 + 1, none⟩ = false ∧
      ∀ x, Row 2 (w.setCell ⟨b, off + pre.length * 2 + 1, none⟩ (.int .i64 x)) v (pre ++ [(c.1, x)]).length (pcells (pre ++ [(c.1, x)])) bo := by
  have hL : (pre ++ [c]).length = pre.length + 1 := by simp
  rcases h with ⟨_, h2, _⟩ | ⟨b, off, cap, hb, hv, h3, h4, h5, h6, h7⟩
  · omega
  · rw [hL] at hv h3 h5 h7
    have a1 := h6 (pre.length * 2 + 1) (by omega)
    have a2 := h7 (pre.length * 2 + 1) (by omega)
    have g := (pcells_get (pre ++ [c]) pre.length (by simp)).2
    rw [List.getElem_append_right (by simp)] at g
    simp only [Nat.sub_self, List.getElem_cons_zero] at g
    rw [g, ← Nat.add_assoc] at a2
    rw [← Nat.add_assoc] at a1
    refine ⟨b, off, cap, hb, hv, h4, a2, a1.2, fun x => .inr ⟨b, off, cap, hb, by rw [hv]; simp, by simpa using h3, by simpa [World.setCell] using h4, by rw [pcells_len], fun j hj => ?_, fun j hj => ?_⟩⟩
    · refine ⟨?_, by rw [World.frozen?_setCell]; exact (h6 j hj).2⟩
      by_cases e : j = pre.length * 2 + 1
      · subst e; rw [← Nat.add_assoc, World.cell?_setCell_same _ _ _ a2]; rfl
      · rw [World.cell?_setCell_other _ _ _ _ (by intro e'; injection e'; omega)]; exact (h6 j hj).1
    · have hj' : j < (pre.length + 1) * 2 := by simpa using hj
      rw [pcells_app]
      by_cases e : j = pre.length * 2 + 1
      · subst e; rw [← Nat.add_assoc, World.cell?_setCell_same _ _ _ a2, List.getElem?_append_right (by rw [pcells_len]; omega), pcells_len, show pre.length * 2 + 1 - pre.length * 2 = 1 by omega]; rfl
      · rw [World.cell?_setCell_other _ _ _ _ (by intro e'; injection e'; omega), h7 j hj', pcells_app]
        by_cases e2 : j < pre.length * 2
        · rw [List.getElem?_append_left (by rw [pcells_len]; exact e2), List.getElem?_append_left (by rw [pcells_len]; exact e2)]
        · obtain rfl : j = pre.length * 2 := by omega
          rw [List.getElem?_append_right (Nat.le_of_eq (pcells_len _)), List.getElem?_append_right (Nat.le_of_eq (pcells_len _)), pcells_len, Nat.sub_self]; rfl
theorem Row.setLast {w : World} {b off n cap : Nat} {pre : List (Int × Int)} {c : Int × Int} {bo : Option Nat} (h : Row 2 w (.slice (some ⟨b, off, none⟩) n cap) (pre ++ [c]).length (pcells (pre ++ [c])) bo) (k : Nat) (x : Int) :
    Row 2 ((w.drewN k).setCell ⟨b, off + pre.length * 2 + 1, none⟩ (.int .i64 x)) (.slice (some ⟨b, off, none⟩) n cap) (pre ++ [(c.1, x)]).length (pcells (pre ++ [(c.1, x)])) bo := by
  have h2 : Row 2 (w.drewN k) (.slice (some ⟨b, off, none⟩) n cap) (pre ++ [c]).length (pcells (pre ++ [c])) bo := h.fr ((Fr.refl [] w).drewN k) (by simp)
  obtain ⟨b', off', cap', _, e, _, _, _, h3⟩ := h2.lastP
  cases e
  exact h3 x
/-- Where the ranges end. -/
def EndB (l : List (Int × Int)) : Prop := ∀ r ∈ l, -1000000000000000 ≤ r.2 ∧ r.2 ≤ 1000000000000000
theorem EndB.nil : EndB [] := fun r hr => by cases hr
theorem EndB.app {l m : List (Int × Int)} (h : EndB l) (k : EndB m) : EndB (l ++ m) := fun r hr => by
  rcases List.mem_append.1 hr with h1 | h1
  · exact h r h1
  · exact k r h1
theorem EndB.left {l m : List (Int × Int)} (h : EndB (l ++ m)) : EndB l := fun r hr => h r (List.mem_append.2 (.inl hr))
theorem EndB.one {a b : Int} (h1 : -1000000000000000 ≤ b) (h2 : b ≤ 1000000000000000) : EndB [(a, b)] := fun r hr => by
  obtain rfl := List.mem_singleton.1 hr; exact ⟨h1, h2⟩
def TidR (w : World) (l : List (Int × Int)) (bo : Option Nat) (e : Ending) (w' : World) : Prop :=
  ∃ L v' bo', e = .returned v' ∧ Nf L ∧ (∀ x, inS L x ↔ inS l x) ∧ L.length ≤ l.length ∧ Row 2 w' v' L.length (pcells L) bo' ∧ (∀ z, bo' = some z → w.heap.size ≤ z) ∧ Fr bo.toList w w'
theorem tidy_any (v : Value) (l : List (Int × Int)) (bo : Option Nat) (w : World) (h : Row 2 w v l.length (pcells l) bo) (hn : l.length ≤ 40000) (hb : ∀ r ∈ l, r.1 ≤ r.2 ∧ -1000000000000000 ≤ r.1 ∧ r.2 ≤ 1000000000000000) :
    Calls Try.prog 32 #[v] w (TidR w l bo) := by
  have SC := sortP_any w v l bo h (by omega)
  replace h := Lib.hid h; replace hb := Lib.hid hb
  go_enter Try.func32, Try.ntmps32
  go_wp2_with fail
  refine (SC).mono ?_
  rintro e w1 ⟨l', rfl, hpm, hpw, hr1, f1⟩
  have hlen : l'.length = l.length := hpm.length_eq
  obtain ⟨o, cap, rfl⟩ := hr1.len
  have hp1 := hr1.pinP
  obtain ⟨o', cap', e', hl1⟩ := hp1
  cases e'
  have s1 := f1.size
  -- all that is read of the sorted ranges lies below w1's end
  obtain ⟨N, hN⟩ : ∃ N, l'.length = N := ⟨_, rfl⟩
  obtain ⟨R, hR⟩ : ∃ R, tidyF l' = R := ⟨_, rfl⟩
  have hn1 : N ≤ 40000 := by omega
  have I0 : TidI [] (l'.drop 0) R := ⟨fun _ => by simpa using hR, fun pre c e => by simp at e⟩
  rw [hN]
  replace hl1 := Lib.hid hl1; replace hN := Lib.hid hN; replace hR := Lib.hid hR; replace I0 := Lib.hid I0; replace hpm := Lib.hid hpm; replace hpw := Lib.hid hpw; replace hr1 := Lib.hid hr1; replace f1 := Lib.hid f1; replace hlen := Lib.hid hlen; replace s1 := Lib.hid s1
  clear hn
  go_wp2_with fail
  go_loopg [3, 11] (N + 1) (fun k v3 v11 wr => ∃ (i : Nat) (out : List (Int × Int)) (b3 : Option Nat), i ≤ N ∧ k + i = N + 1 ∧ v11 = .int .i64 i ∧ TidI out (l'.drop i) R ∧ out.length ≤ i ∧ EndB out ∧ Row 2 wr v3 out.length (pcells out) b3 ∧ (∀ z, b3 = some z → w1.heap.size ≤ z) ∧ Fr [] w1 wr)
  case atStart => exact ⟨0, [], none, by omega, by omega, rfl, I0.out, by simp, EndB.nil, Row.nil _ _ _, by simp, Fr.refl _ _⟩
  case round =>
    obtain ⟨i, out, b3, hi, hk, rfl, hI, hol, hEB, hrw, hnw, hF⟩ := hrel
    obtain ⟨wi, rfl⟩ : ∃ x : World, x = wr := ⟨_, rfl⟩
    obtain ⟨oz, cz, rfl⟩ := hrw.len
    by_cases hlt : i < N
    · have hltI : (i : Int) < N := by omega
      have hil : i < l'.length := by have := hN.out; omega
      obtain ⟨B, off, rfl, hB, a1, a2⟩ := hl1.out i hil
      have x1 := hF.cell (p := ⟨B, off + i * 2, none⟩) hB (by simp)
      have x2 := hF.cell (p := ⟨B, off + i * 2 + 1, none⟩) hB (by simp)
      rw [a1] at x1
      rw [a2] at x2
      obtain ⟨⟨p1, p2⟩, hp⟩ : ∃ x, l'[i] = x := ⟨_, rfl⟩
      have hbd := hb.out (p1, p2) (hpm.out.mem_iff.1 (hp ▸ List.getElem_mem hil))
      rw [hp] at x1 x2
      rw [List.drop_eq_getElem_cons hil, hp] at hI
      dsimp only at x1 x2 hbd
      obtain ⟨hbd0, hbd1, hbd2⟩ := hbd
      clear a1 a2
      obtain ⟨w2, hw2⟩ : ∃ x, wi.alloc (.cells #[.int .i64 p1, .int .i64 p2] 51) = x := ⟨_, rfl⟩
      have P1 := Pt.newA wi 51 #[.int .i64 p1, .int .i64 p2]
      rw [hw2] at P1
      have F1 : Fr [] wi w2 := by rw [← hw2]; exact (Fr.refl [] wi).alloc _
      obtain ⟨b1, hb1⟩ : ∃ x, wi.heap.size = x := ⟨_, rfl⟩
      rw [hb1] at P1
      have F2 := hF.trans F1
      have k1 := P1.cell
      have k2 := P1.free
      have hrw2 := hrw.fr F1 (by simp)
      have s0 := hF.size
      have hb1w : w1.heap.size ≤ b1 := by rw [← hb1]; exact s0
      have hb1l : b1 < w2.heap.size := P1.lt
      rcases List.eq_nil_or_concat out with rfl | ⟨pre, c, rfl⟩
      · have hI2 := hI.first
        have hi1 : ([] ++ [(p1, p2)] : List (Int × Int)).length ≤ i + 1 := by simp
        have hEB2 : EndB ([] ++ [(p1, p2)]) := EndB.one (by omega) (by omega)
        replace hI := Lib.hid hI; replace hI2 := Lib.hid hI2; replace hp := Lib.hid hp; replace hrw := Lib.hid hrw; replace hrw2 := Lib.hid hrw2; replace hnw := Lib.hid hnw; replace hF := Lib.hid hF; replace F1 := Lib.hid F1; replace F2 := Lib.hid F2; replace P1 := Lib.hid P1; replace hol := Lib.hid hol; replace hi1 := Lib.hid hi1; replace hEB := Lib.hid hEB; replace hEB2 := Lib.hid hEB2
        simp only [List.length_nil]
        go_wp2_with fail
        go_quiet (fail)
        have hrq := hrw2.out.fr ((Fr.refl [] w2).drewN nq) (by simp)
        obtain ⟨v', w9, bo', happ, hr9, hb9, f9⟩ := hrq.addP (by simp) (p1, p2)
        have G9 := (F2.out.trans ((Fr.refl _ _).drewN nq)).step f9 (fun z hz => .inr (hnw.out z (by simpa using hz)))
        have hb9' : ∀ z, bo' = some z → w1.heap.size ≤ z := fun z hz => by
          have := F2.out.size
          rcases hb9 with e | ⟨z', e, h2⟩
          · exact hnw.out z (by rw [← e]; exact hz)
          · rw [hz] at e; cases e; have h3 : (w2.drewN nq).heap.size = w2.heap.size := rfl; omega
        dsimp only at happ
        simp only [List.length_nil] at happ
        replace happ := Lib.hid happ; replace hr9 := Lib.hid hr9; replace hb9 := Lib.hid hb9; replace f9 := Lib.hid f9; replace G9 := Lib.hid G9; replace hb9' := Lib.hid hb9'; replace hrq := Lib.hid hrq
        go_wp2_with (first | (at_builtin; refine wpList_append_run _ rfl _ _ _ rfl rfl rfl happ.out ?_))
        go_roundg (gk - 1)
        case measure => omega
        case rel => exact ⟨i + 1, _, _, by omega, by omega, by go_num, hI2.out, hi1.out, hEB2.out, hr9.out, hb9'.out, G9.out⟩
      · rw [List.concat_eq_append] at hI hrw2 hol hEB ⊢
        obtain ⟨b4, off4, cap4, rfl, e4, hb4, c4, fz4, _⟩ := hrw2.lastP
        obtain ⟨c1, c2⟩ := c
        have hL : (pre ++ [(c1, c2)]).length = pre.length + 1 := by simp
        obtain ⟨m, hm⟩ : ∃ m, pre.length = m := ⟨_, rfl⟩
        rw [hL] at e4 hol ⊢
        rw [hm] at e4 hol c4 fz4 hL ⊢
        obtain ⟨rfl, rfl⟩ : oz = some ⟨b4, off4, none⟩ ∧ cz = cap4 := by cases e4; exact ⟨rfl, rfl⟩
        obtain ⟨n3, hn3⟩ : ∃ x, m + 1 = x := ⟨_, rfl⟩
        have hm0 : (0 : Int) < (n3 : Int) := by omega
        have hm1 : (n3 : Int) - 1 = (m : Int) := by omega
        have hmN : m < n3 := by omega
        have hmI : (m : Int) < (n3 : Int) := by omega
        rw [hn3] at e4 hol hL ⊢
        have d0 := decide_eq_true hm0
        have hm2 : 0 < n3 := by omega
        have d00 := decide_eq_true hm2
        have hmb : (m : Int) < 50000 := by omega
        have hmw : IntKind.i64.wrap (m : Int) = (m : Int) := IntWalk.i64_in _ (by omega)
        dsimp only at c4
        have hc2b : -1000000000000000 ≤ c2 ∧ c2 ≤ 1000000000000000 := hEB (c1, c2) (by simp)
        obtain ⟨hc2b1, hc2b2⟩ := hc2b
        have hcw : IntKind.i64.wrap (c2 + 1) = c2 + 1 := IntWalk.i64_in _ (by omega)
        have hset := fun x => fun k => (show Row 2 w2 (.slice (some ⟨b4, off4, none⟩) n3 cz) (pre ++ [(c1, c2)]).length (pcells (pre ++ [(c1, c2)])) (some b4) from by rw [← hL]; exact hrw2).setLast k x
        rw [hm] at hset
        have hb4w : w1.heap.size ≤ b4 := hnw b4 rfl
        by_cases hc : p1 ≤ c2 + 1
        · have d1 := decide_eq_true hc
          obtain ⟨mx, hmx⟩ : ∃ x, (if c2 < p2 then p2 else c2) = x := ⟨_, rfl⟩
          have emx : max c2 p2 = mx := by rw [← hmx]; split <;> omega
          have hI2 := hI.join hc emx
          have hEB2 : EndB (pre ++ [(c1, mx)]) := hEB.left.app (EndB.one (by omega) (by omega))
          have hL2 : (pre ++ [(c1, mx)]).length = n3 := by rw [← hL]; simp
          have hl2 : (pre ++ [(c1, mx)]).length ≤ i + 1 := by omega
          have G2 : ∀ k, Fr [] w1 ((w2.drewN k).setCell ⟨b4, off4 + m * 2 + 1, none⟩ (.int .i64 mx)) := fun k => (F2.trans ((Fr.refl _ _).drewN k)).setCell (.inr hb4w) _
          have hset := hset mx
          clear e4
          replace hI := Lib.hid hI; replace hI2 := Lib.hid hI2; replace hp := Lib.hid hp; replace hrw := Lib.hid hrw; replace hrw2 := Lib.hid hrw2; replace hnw := Lib.hid hnw; replace hF := Lib.hid hF; replace F1 := Lib.hid F1; replace F2 := Lib.hid F2; replace P1 := Lib.hid P1; replace hol := Lib.hid hol; replace hL := Lib.hid hL; replace hm := Lib.hid hm; replace hset := Lib.hid hset; replace hn3 := Lib.hid hn3; replace hEB := Lib.hid hEB; replace hEB2 := Lib.hid hEB2; replace hL2 := Lib.hid hL2; replace hl2 := Lib.hid hl2; replace G2 := Lib.hid G2; replace hb4w := Lib.hid hb4w
          go_wp2_with fail
          go_quiet (fail)
          go_wp2_with fail
          go_region
          go_wp2_with fail
          go_roundg (gk - 1)
          case measure => omega
          case rel =>
            exact ⟨i + 1, _, _, by omega, by omega, by go_num, hI2.out, hl2.out, hEB2.out, hset.out _, hnw.out, G2.out _⟩
        · have d1 := decide_eq_false hc
          have hI2 := hI.next hc
          have hEB2 : EndB (pre ++ [(c1, c2)] ++ [(p1, p2)]) := hEB.app (EndB.one (by omega) (by omega))
          have hl2 : (pre ++ [(c1, c2)] ++ [(p1, p2)]).length ≤ i + 1 := by rw [List.length_append, hL]; simp; omega
          clear e4 hset
          replace hI := Lib.hid hI; replace hI2 := Lib.hid hI2; replace hp := Lib.hid hp; replace hrw := Lib.hid hrw; replace hrw2 := Lib.hid hrw2; replace hnw := Lib.hid hnw; replace hF := Lib.hid hF; replace F1 := Lib.hid F1; replace F2 := Lib.hid F2; replace P1 := Lib.hid P1; replace hol := Lib.hid hol; replace hL := Lib.hid hL; replace hm := Lib.hid hm; replace hn3 := Lib.hid hn3; replace hEB := Lib.hid hEB; replace hEB2 := Lib.hid hEB2; replace hl2 := Lib.hid hl2
          go_wp2_with fail
          go_quiet (fail)
          have hrq := hrw2.out.fr ((Fr.refl [] w2).drewN nq) (by simp)
          obtain ⟨v', w9, bo', happ, hr9, hb9, f9⟩ := hrq.addP (by rw [hL.out]; omega) (p1, p2)
          have G9 := (F2.out.trans ((Fr.refl _ _).drewN nq)).step f9 (fun z hz => .inr (hnw.out z (by rw [show z = b4 from by simpa using hz])))
          have hb9' : ∀ z, bo' = some z → w1.heap.size ≤ z := fun z hz => by
            have := F2.out.size
            rcases hb9 with e | ⟨z', e, h2⟩
            · exact hnw.out z (by rw [← e]; exact hz)
            · rw [hz] at e; cases e; have h3 : (w2.drewN nq).heap.size = w2.heap.size := rfl; omega
          dsimp only at happ
          rw [hL.out] at happ
          replace happ := Lib.hid happ; replace hr9 := Lib.hid hr9; replace hb9 := Lib.hid hb9; replace f9 := Lib.hid f9; replace G9 := Lib.hid G9; replace hb9' := Lib.hid hb9'; replace hrq := Lib.hid hrq
          go_wp2_with (first | (at_builtin; refine wpList_append_run _ rfl _ _ _ rfl rfl rfl happ.out ?_))
          go_roundg (gk - 1)
          case measure => omega
          case rel => exact ⟨i + 1, _, _, by omega, by omega, by go_num, hI2.out, hl2.out, hEB2.out, hr9.out, hb9'.out, G9.out⟩
    · have hltI : ¬ (i : Int) < N := by omega
      rw [show l'.drop i = [] from List.drop_eq_nil_of_le (by have := hN.out; omega)] at hI
      have hd := hI.done
      subst hd
      have hlaw := tidyF_law l' (fun r hr => (hb.out r (hpm.out.mem_iff.1 hr)).1) hpw.out
      rw [hR.out] at hlaw
      have hle : out.length ≤ l.length := by have := tidyF_len l'; rw [hR.out, hlen.out] at this; exact this
      have hmm : ∀ x, inS out x ↔ inS l x := fun x => (hlaw.2 x).trans (inS_perm hpm.out x)
      have hzz : ∀ z, b3 = some z → w.heap.size ≤ z := fun z hz => Nat.le_trans s1.out (hnw z hz)
      obtain ⟨no, hno⟩ : ∃ x, out.length = x := ⟨_, rfl⟩
      rw [hno]
      have GO : TidR w l bo (.returned (.slice oz no cz)) wi := ⟨out, _, b3, rfl, hlaw.1, hmm, hle, hno ▸ hrw, hzz, f1.out.trans (hF.mono (by simp))⟩
      replace hI := Lib.hid hI; replace hrw := Lib.hid hrw; replace hnw := Lib.hid hnw; replace hF := Lib.hid hF; replace GO := Lib.hid GO; replace hlaw := Lib.hid hlaw; replace hmm := Lib.hid hmm; replace hzz := Lib.hid hzz; replace hno := Lib.hid hno; replace hol := Lib.hid hol; replace hle := Lib.hid hle
      go_wp2_with fail
      go_ret
      exact GO.out
end Go.Proofs.Ytehmfnpiidcbpaa
