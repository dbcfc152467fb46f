import Derived.Test.YtjgmlnkbplgloaaQ9
import Derived.Test.YtjgmlnkbplgloaaQ10
import Derived.StillTailTactics
namespace Go.Proofs.Ytjgmlnkbplgloaa
open Go.RowKit
set_option linter.unusedVariables false
set_option linter.unusedSimpArgs false
set_option maxHeartbeats 16000000
set_option maxRecDepth 20000
/-- A slice of slices of numbers that came in. -/
def IntRows (w : World) (v : Value) (ll : List (List Int)) : Prop := ∃ (o : Option Addr) (cap : Nat), v = .slice o ll.length cap ∧
  ∀ (i : Nat) (h : i < ll.length), ∃ b off rv, o = some ⟨b, off, none⟩ ∧ b < w.heap.size ∧ w.cell? ⟨b, off + i, none⟩ = some rv ∧ IntArg w rv ll[i]
def sideAt (i : Nat) : Bool := decide (i % 2 = 1)
theorem sideAt_succ (i : Nat) : sideAt (i + 1) = !(sideAt i) := by
  unfold sideAt
  by_cases h : i % 2 = 1
  · rw [decide_eq_true h, decide_eq_false (by omega)]; rfl
  · rw [decide_eq_false h, decide_eq_true (by omega)]; rfl
theorem deedsFrom_snoc (l : List Int) : ∀ (ll : List (List Int)) (s : Bool), deedsFrom s (ll ++ [l]) = deedsFrom s ll ++ stretch (if sideAt ll.length = true then !s else s) l := by
  intro ll
  induction ll with
  | nil => intro s; simp [deedsFrom, sideAt]
  | cons a t ih =>
    intro s
    show stretch s a ++ deedsFrom (!s) (t ++ [l]) = stretch s a ++ deedsFrom (!s) t ++ stretch _ l
    rw [ih, List.append_assoc, List.length_cons, sideAt_succ]
    cases sideAt t.length <;> simp
theorem deeds_step (ll : List (List Int)) (i : Nat) (h : i < ll.length) : deedsFrom false (ll.take (i + 1)) = deedsFrom false (ll.take i) ++ stretch (sideAt i) ll[i] := by
  rw [List.take_succ_eq_append_getElem h, deedsFrom_snoc, List.length_take, Nat.min_eq_left (Nat.le_of_lt h)]
  cases sideAt i <;> rfl
theorem stretch_len (s : Bool) (l : List Int) : (stretch s l).length ≤ 12 := by
  unfold stretch
  rw [List.length_append, List.length_map, List.length_replicate]
  have : (l.take 6).length ≤ 6 := List.length_take_le _ _
  omega
theorem deeds_len (ll : List (List Int)) : ∀ s, (deedsFrom s ll).length ≤ 12 * ll.length := by
  induction ll with
  | nil => intro s; simp [deedsFrom]
  | cons a t ih =>
    intro s
    show (stretch s a ++ deedsFrom (!s) t).length ≤ _
    rw [List.length_append, List.length_cons]
    have := ih (!s); have := stretch_len s a
    omega
theorem stretch_in (s : Bool) (l : List Int) : ∀ x ∈ stretch s l, 0 ≤ x ∧ x ≤ 300 := by
  intro x hx
  unfold stretch at hx
  rcases List.mem_append.mp hx with h | h
  · obtain ⟨y, _, rfl⟩ := List.mem_map.mp h
    unfold ptD
    cases s
    · show 0 ≤ 24 * (y % 10) + 12 * (0 : Int) + y % 3 ∧ 24 * (y % 10) + 12 * (0 : Int) + y % 3 ≤ 300; omega
    · show 0 ≤ 24 * (y % 10) + 12 * (1 : Int) + y % 3 ∧ 24 * (y % 10) + 12 * (1 : Int) + y % 3 ≤ 300; omega
  · rw [List.eq_of_mem_replicate h]; cases s <;> decide
theorem deeds_in (ll : List (List Int)) : ∀ s, ∀ x ∈ deedsFrom s ll, 0 ≤ x ∧ x ≤ 300 := by
  induction ll with
  | nil => intro s x hx; simp [deedsFrom] at hx
  | cons a t ih =>
    intro s x hx
    rcases List.mem_append.mp (show x ∈ stretch s a ++ deedsFrom (!s) t from hx) with h | h
    · exact stretch_in s a x h
    · exact ih _ x h
/-- A list of the call's own, cut, as an argument. -/
theorem Row.intArg {w : World} {v : Value} {l : List Int} {bo : Option Nat} (h : Row 1 w v l.length (ints l) bo) (hl : ∀ x ∈ l, 0 ≤ x ∧ x ≤ 300) (k : Nat) (hk : k ≤ l.length) : ∃ o cap, v = .slice o l.length cap ∧ k ≤ cap ∧ IntArg w (.slice o k cap) (l.take k) := by
  rcases h with ⟨_, h2, _, o, rfl⟩ | ⟨b, off, cap, hb, rfl, h3, h4, _, _, h7⟩
  · refine ⟨o, 0, by rw [h2], by omega, o, 0, by rw [List.length_take, h2]; simp; omega, fun x hx => ?_, fun i hi => ?_⟩
    · have := hl x (List.mem_of_mem_take hx); omega
    · rw [List.length_take] at hi; omega
  · refine ⟨_, cap, rfl, by omega, _, cap, by rw [List.length_take, Nat.min_eq_left hk], fun x hx => ?_, fun i hi => ?_⟩
    · have := hl x (List.mem_of_mem_take hx); omega
    · have hil : i < l.length := by rw [List.length_take] at hi; omega
      exact ⟨b, off, rfl, h4, by rw [h7 i (by omega)]; simp [ints, hil]⟩
theorem agrees_out (N : Int) (dv : Value) (ll : List (List Int)) (w : World) (hD : IntRows w dv ll) (hx : N < 0 ∨ 900000 < N ∨ 30 < ll.length) :
    Calls Try.prog 7 #[.int .i64 N, dv] w fun e w' => e = .returned (.bool true) ∧ Fr [] w w' := by
  obtain ⟨o, cap, rfl, hl⟩ := hD
  clear hl
  rcases (by omega : N < 0 ∨ (¬ N < 0 ∧ 900000 < N) ∨ (¬ N < 0 ∧ ¬ 900000 < N ∧ (30 : Int) < ll.length)) with g | ⟨g, g'⟩ | ⟨g, g', g''⟩
  all_goals
    go_enter Try.func7, Try.ntmps7
    go_wp2_with fail
    refine (sane_any _).mono ?_
    rintro e w1 ⟨rfl, f1⟩
    go_wp2_with fail
    go_ret
    exact ⟨rfl, f1⟩
theorem agrees_in (N : Int) (dv : Value) (ll : List (List Int)) (w : World) (hD : IntRows w dv ll) (hN : 0 ≤ N ∧ N ≤ 900000) (hlen : ll.length ≤ 30) :
    Calls Try.prog 7 #[.int .i64 N, dv] w fun e w' => e = .returned (.bool true) ∧ Fr [] w w' := by
  obtain ⟨o, cap, rfl, hl⟩ := hD
  have g1 : ¬ N < 0 := by omega
  have g2 : ¬ 900000 < N := by omega
  have g3 : ¬ (30 : Int) < ll.length := by omega
  have hMod := fun n m (w' : World) (a : 1 ≤ m) (b : m ≤ 1000000) => mod_any n m w' a b
  replace hMod := Lib.hid hMod; replace hl := Lib.hid hl
  go_enter Try.func7, Try.ntmps7
  go_wp2_with fail
  go_loopg [5, 6] (ll.length + 1) (fun k v5 v6 wr => ∃ (i : Nat) (bo : Option Nat), i ≤ ll.length ∧ k + i = ll.length + 1 ∧ v6 = .int .i64 i ∧ Row 1 wr v5 (deedsFrom false (ll.take i)).length (ints (deedsFrom false (ll.take i))) bo ∧ (∀ z, bo = some z → w.heap.size ≤ z) ∧ Fr [] w wr)
  case atStart => exact ⟨0, none, by omega, by omega, rfl, Row.nil 1 w none, by simp, Fr.refl _ _⟩
  case round =>
    obtain ⟨i, bo, hi, hk, rfl, hR, hB, hF⟩ := hrel
    obtain ⟨go, hgo⟩ : ∃ x, x = gk := ⟨_, rfl⟩
    subst hgo
    by_cases hlt : i < ll.length
    · as_aux_lemma =>
      have hltI : (i : Int) < ll.length := by omega
      obtain ⟨b, off, rv, rfl, hbl, hcl, hA⟩ := hl.out i hlt
      have hst := deeds_step ll i hlt
      obtain ⟨l, hll⟩ : ∃ l, ll[i] = l := ⟨_, rfl⟩
      rw [hll] at hA hst
      obtain ⟨D, hD⟩ : ∃ D, deedsFrom false (ll.take i) = D := ⟨_, rfl⟩
      have hDl : D.length ≤ 360 := by rw [← hD]; have := deeds_len (ll.take i) false; rw [List.length_take] at this; omega
      rw [hD] at hR hst
      obtain ⟨s, hs⟩ : ∃ s, sideAt i = s := ⟨_, rfl⟩
      have hsi : (i : Int) % 2 = (s.toNat : Int) := by
        rw [← hs]; unfold sideAt
        by_cases h : i % 2 = 1
        · rw [decide_eq_true h]; show (i : Int) % 2 = 1; omega
        · rw [decide_eq_false h]; show (i : Int) % 2 = 0; omega
      rw [hs] at hst
      obtain ⟨nj, hnj⟩ : ∃ n, s.toNat = n := ⟨_, rfl⟩
      have hnj2 : (nj : Int) < 2 := by rw [← hnj]; cases s <;> decide
      rw [hnj] at hsi
      obtain ⟨oi, capi, rfl, hir, hli⟩ := hA
      have hcw : ∀ w', Fr [] w w' → w'.cell? ⟨b, off + i, none⟩ = some (.slice oi l.length capi) := fun w' f => by rw [f.cell (p := ⟨b, off + i, none⟩) hbl (by simp)]; exact hcl
      obtain ⟨ov, cv, rfl⟩ := hR.len
      replace hR := Lib.hid hR; replace hB := Lib.hid hB; replace hF := Lib.hid hF; replace hst := Lib.hid hst; replace hll := Lib.hid hll; replace hD := Lib.hid hD; replace hs := Lib.hid hs; replace hnj := Lib.hid hnj; replace hli := Lib.hid hli; replace hir := Lib.hid hir; replace hcw := Lib.hid hcw
      clear hcl
      go_wp2_with fail
      try rw [hsi]
      obtain ⟨wo, hwo⟩ : ∃ x, x = wr := ⟨_, rfl⟩
      subst hwo
      go_loopg [5, 8] 7 (fun kk v5 v8 wr => ∃ (k : Nat) (bo : Option Nat), k ≤ 6 ∧ k ≤ l.length ∧ kk + k = 7 ∧ v8 = .int .i64 k ∧ Row 1 wr v5 (D ++ (l.take k).map (ptD s)).length (ints (D ++ (l.take k).map (ptD s))) bo ∧ (∀ z, bo = some z → w.heap.size ≤ z) ∧ Fr [] w wr)
      case atStart => exact ⟨0, bo, by omega, by omega, by omega, rfl, by simpa using hR.out, hB.out, hF.out⟩
      case round =>
        obtain ⟨k, bo2, hk6, hkl, hgk, rfl, hR2, hB2, hF2⟩ := hrel
        have cw := hcw.out _ hF2
        by_cases hc : k < l.length ∧ k < 6
        · obtain ⟨c1, c2⟩ := hc
          have c1I : (k : Int) < l.length := by omega
          have c2I : (k : Int) < 6 := by omega
          obtain ⟨bi, oi2, rfl, hbi, hci⟩ := hli.out k c1
          obtain ⟨x, hx⟩ : ∃ x, l[k] = x := ⟨_, rfl⟩
          rw [hx] at hci
          have hsn : (l.take (k + 1)).map (ptD s) = (l.take k).map (ptD s) ++ [ptD s x] := by rw [List.take_succ_eq_append_getElem c1, List.map_append, hx]; rfl
          have hcx : wr.cell? ⟨bi, oi2 + k, none⟩ = some (.int .i64 x) := by rw [hF2.cell (p := ⟨bi, oi2 + k, none⟩) hbi (by simp)]; exact hci
          obtain ⟨a, ha⟩ : ∃ a, x % 10 = a := ⟨_, rfl⟩
          obtain ⟨c, hc3⟩ : ∃ c, x % 3 = c := ⟨_, rfl⟩
          have hM1 := fun w' => hMod.out x 10 w' (by omega) (by omega)
          have hM2 := fun w' => hMod.out x 3 w' (by omega) (by omega)
          rw [ha] at hM1
          rw [hc3] at hM2
          have hab : 0 ≤ a ∧ a < 10 ∧ 0 ≤ c ∧ c < 3 := by omega
          have hpv : ptD s x = 24 * a + 12 * (nj : Int) + c := by unfold ptD; rw [hnj.out, ha, hc3]
          have q1 : IntKind.i64.wrap (24 * a) = 24 * a := by rw [IntKind.wrap_i64]; omega
          have q2 : IntKind.i64.wrap (12 * (nj : Int)) = 12 * (nj : Int) := by rw [IntKind.wrap_i64]; omega
          have q3 : IntKind.i64.wrap (24 * a + 12 * (nj : Int)) = 24 * a + 12 * (nj : Int) := by rw [IntKind.wrap_i64]; omega
          have q4 : IntKind.i64.wrap (24 * a + 12 * (nj : Int) + c) = 24 * a + 12 * (nj : Int) + c := by rw [IntKind.wrap_i64]; omega
          have hlt2 : (D ++ (l.take k).map (ptD s)).length < 1000000 := by rw [List.length_append, List.length_map, List.length_take]; omega
          obtain ⟨v', w', bo3, hrun, hR3, hb3, hF3⟩ := (hR2.fr ((Fr.refl [] wr).drew) (by simp)).one hlt2 (ptD s x)
          rw [List.append_assoc, ← hsn] at hR3
          have hB3 : ∀ z, bo3 = some z → w.heap.size ≤ z := fun z hz => by
            rcases hb3 with h | ⟨q, h, hq⟩
            · rw [h] at hz; exact hB2 z hz
            · rw [h] at hz; cases hz; exact Nat.le_trans hF2.size hq
          have hF4 : Fr [] w w' := (hF2.drew).step hF3 (fun z hz => .inr (hB2 z (by simpa using hz)))
          obtain ⟨o2, c2', hv5⟩ := hR2.len
          obtain ⟨ln, hln⟩ : ∃ n, (D ++ (l.take k).map (ptD s)).length = n := ⟨_, rfl⟩
          rw [hln] at hv5
          subst hv5
          obtain ⟨wb, hwb⟩ : ∃ n, wr.heap.size = n := ⟨_, rfl⟩
          rw [hpv, show wr.drew.heap.size = wb from hwb] at hrun
          replace hln := Lib.hid hln
          have KW : Hid (w'.cell? ⟨b, off + i, none⟩ = some (.slice (some ⟨bi, oi2, none⟩) l.length capi) ∧ w'.cell? ⟨bi, oi2 + k, none⟩ = some (.int .i64 x)) := ⟨hcw.out w' hF4, by rw [hF4.cell (p := ⟨bi, oi2 + k, none⟩) hbi (by simp)]; exact hci⟩
          replace hrun := Lib.hid hrun; replace hR2 := Lib.hid hR2; replace hB2 := Lib.hid hB2; replace hF2 := Lib.hid hF2; replace hR3 := Lib.hid hR3; replace hb3 := Lib.hid hb3; replace hF3 := Lib.hid hF3; replace hB3 := Lib.hid hB3; replace hF4 := Lib.hid hF4; replace hsn := Lib.hid hsn; replace hx := Lib.hid hx; replace ha := Lib.hid ha; replace hc3 := Lib.hid hc3; replace hM1 := Lib.hid hM1; replace hM2 := Lib.hid hM2; replace hpv := Lib.hid hpv; replace hlt2 := Lib.hid hlt2
          clear hci
          go_wp2_with fail
          go_region_held3 (fun w' => w'.cell? ⟨b, off + i, none⟩ = some (.slice (some ⟨bi, oi2, none⟩) l.length capi) ∧ w'.cell? ⟨bi, oi2 + k, none⟩ = some (.int .i64 x))
            (first | go_keep | exact KW.out)
            ((first
              | (refine step_append_run rfl _ _ _ rfl (v := .slice o2 ln c2') rfl (xv := .slice (some ⟨wb, 0, none⟩) 1 1) rfl hrun.out ?_)
              | (go_at_call 10; ((with_reducible refine (hM1.out _).mono ?_); rintro e w9 ⟨rfl, rfl⟩))
              | (go_at_call 10; ((with_reducible refine (hM2.out _).mono ?_); rintro e w9 ⟨rfl, rfl⟩))))
          go_wp2_with fail
          go_roundg (gk - 1)
          case measure => omega
          case rel => exact ⟨k + 1, bo3, by omega, by omega, by omega, by go_num, hR3.out, hB3.out, hF4.out⟩
        · have hl6 : l.take k = l.take 6 := by
            by_cases h : l.length ≤ k
            · rw [List.take_of_length_le h, List.take_of_length_le (by omega)]
            · rw [show k = 6 by omega]
          rw [hl6] at hR2
          have hcc : ¬ (k : Int) < l.length ∨ ((k : Int) < l.length ∧ ¬ (k : Int) < 6) := by omega
          have hsubw : (1 : Int) - (nj : Int) = 1 - (s.toNat : Int) := by rw [hnj.out]
          obtain ⟨wp, hwp⟩ : ∃ x, x = wr := ⟨_, rfl⟩
          subst hwp
          obtain ⟨o2, c2', hv5⟩ := hR2.len
          obtain ⟨E, hE⟩ : ∃ E, D ++ (l.take 6).map (ptD s) = E := ⟨_, rfl⟩
          have hEl : E.length ≤ 400 := by rw [← hE, List.length_append, List.length_map, List.length_take]; omega
          have hst2 : deedsFrom false (ll.take (i + 1)) = E ++ List.replicate 6 (popD s) := by rw [hst.out, ← hE, List.append_assoc]; rfl
          rw [hE] at hR2 hv5
          obtain ⟨ln, hln⟩ : ∃ n, E.length = n := ⟨_, rfl⟩
          have hv6 := hv5
          rw [hln] at hv6
          have hR2' := hR2
          rw [hv5] at hR2
          subst hv6
          replace hR2 := Lib.hid hR2; replace hR2' := Lib.hid hR2'; replace hB2 := Lib.hid hB2; replace hF2 := Lib.hid hF2; replace hln := Lib.hid hln; replace hE := Lib.hid hE; replace hst2 := Lib.hid hst2; replace hl6 := Lib.hid hl6; replace hEl := Lib.hid hEl; replace hv5 := Lib.hid hv5
          clear hsubw hc
          rcases hcc with c1 | ⟨c1, c2⟩
          all_goals
            go_wp2_with fail
            go_loopg [5, 9] 7 (fun kk v5 v9 wr => ∃ (k : Nat) (bo : Option Nat), k ≤ 6 ∧ kk + k = 7 ∧ v9 = .int .i64 k ∧ Row 1 wr v5 (E ++ List.replicate k (popD s)).length (ints (E ++ List.replicate k (popD s))) bo ∧ (∀ z, bo = some z → w.heap.size ≤ z) ∧ Fr [] w wr)
            case atStart => exact ⟨0, bo2, by omega, by omega, rfl, by simpa using hR2'.out, hB2.out, hF2.out⟩
            case round =>
              obtain ⟨k3, bo4, hk6, hkk, rfl, hR4, hB4, hF4⟩ := hrel
              by_cases hc : k3 < 6
              · have c3 : (k3 : Int) < 6 := by omega
                have hsn : List.replicate (k3 + 1) (popD s) = List.replicate k3 (popD s) ++ [popD s] := by rw [List.replicate_succ']
                have hpv : popD s = 12 * (1 - (nj : Int)) + 7 := by unfold popD; rw [hnj.out]
                obtain ⟨v', w', bo3, hrun, hR3, hb3, hF3⟩ := hR4.one (by rw [List.length_append, List.length_replicate]; have := hEl.out; omega) (popD s)
                rw [List.append_assoc, ← hsn] at hR3
                have hB3 : ∀ z, bo3 = some z → w.heap.size ≤ z := fun z hz => by
                  rcases hb3 with h | ⟨q, h, hq⟩
                  · rw [h] at hz; exact hB4 z hz
                  · rw [h] at hz; cases hz; exact Nat.le_trans hF4.size hq
                have hF5 : Fr [] w w' := hF4.step hF3 (fun z hz => .inr (hB4 z (by simpa using hz)))
                obtain ⟨o4, c4', hv7⟩ := hR4.len
                obtain ⟨ln4, hln4⟩ : ∃ n, (E ++ List.replicate k3 (popD s)).length = n := ⟨_, rfl⟩
                rw [hln4] at hv7
                subst hv7
                rw [hpv] at hrun
                replace hrun := Lib.hid hrun; replace hR4 := Lib.hid hR4; replace hB4 := Lib.hid hB4; replace hF4 := Lib.hid hF4; replace hR3 := Lib.hid hR3; replace hb3 := Lib.hid hb3; replace hF3 := Lib.hid hF3; replace hB3 := Lib.hid hB3; replace hF5 := Lib.hid hF5; replace hsn := Lib.hid hsn; replace hpv := Lib.hid hpv; replace hln4 := Lib.hid hln4
                go_wp2_with (first | (at_builtin; refine wpList_append_run _ rfl _ _ _ rfl rfl rfl hrun.out ?_))
                go_roundg (gk - 1)
                case measure => omega
                case rel => exact ⟨k3 + 1, bo3, by omega, by omega, by go_num, hR3.out, hB3.out, hF5.out⟩
              · have hk3 : k3 = 6 := by omega
                subst hk3
                have c3 : ¬ ((6 : Nat) : Int) < 6 := by omega
                replace hR4 := Lib.hid hR4; replace hB4 := Lib.hid hB4; replace hF4 := Lib.hid hF4
                go_wp2_with fail
                go_roundg (go - 1)
                case measure => omega
                case rel => exact ⟨i + 1, bo4, by omega, by omega, by go_num, by rw [hst2.out]; exact hR4.out, hB4.out, hF4.out⟩
    · as_aux_lemma =>
      have hie : ll.take i = ll := List.take_of_length_le (by omega)
      have hltI : ¬ (i : Int) < ll.length := by omega
      rw [hie] at hR
      have hAG := agrees_plain N hN ll hlen 300
      have hin := deeds_in ll false
      obtain ⟨D, hD⟩ : ∃ D, deedsFrom false ll = D := ⟨_, rfl⟩
      rw [hD] at hR hAG hin
      have key : ∃ o5 c5, u5 = Value.slice o5 D.length c5 ∧ (300 < D.length → 300 ≤ c5 ∧ IntArg wr (.slice o5 300 c5) (D.take 300)) ∧ (¬ 300 < D.length → IntArg wr (.slice o5 D.length c5) (D.take 300)) := by
        by_cases h : 300 < D.length
        · obtain ⟨o5, c5, e1, e2, e3⟩ := hR.intArg hin 300 (by omega)
          exact ⟨o5, c5, e1, fun _ => ⟨e2, e3⟩, fun h' => absurd h h'⟩
        · obtain ⟨o5, c5, e1, e2, e3⟩ := hR.intArg hin D.length (Nat.le_refl _)
          refine ⟨o5, c5, e1, fun h' => absurd h' h, fun _ => ?_⟩
          rw [List.take_of_length_le (by omega)] at e3 ⊢
          exact e3
      obtain ⟨o5, c5, rfl, K1, K2⟩ := key
      have hPl := fun dv hA => playq_any N dv (D.take 300) wr hA
      have hpq : playQ N (D.take 300) = _ := if_pos ⟨⟨hN.1, by omega⟩, by rw [List.length_take]; omega⟩
      rw [hpq] at hPl
      obtain ⟨p, hp⟩ : ∃ p, runQ (startQ N) (D.take 300) = p := ⟨_, rfl⟩
      rw [hp] at hPl hAG
      obtain ⟨m0, hm0⟩ : ∃ x, (p.sd false).m = x := ⟨_, rfl⟩
      obtain ⟨m1, hm1⟩ : ∃ x, (p.sd true).m = x := ⟨_, rfl⟩
      obtain ⟨z, hz⟩ : ∃ x, p.quiet = x := ⟨_, rfl⟩
      rw [hm0, hm1, hz] at hPl
      rw [hm0, hm1, hz] at hAG
      obtain ⟨nd, hnd⟩ : ∃ n, D.length = n := ⟨_, rfl⟩
      rw [hnd] at K1 K2
      rw [hnd]
      clear hpq
      replace K1 := Lib.hid K1; replace K2 := Lib.hid K2; replace hPl := Lib.hid hPl; replace hR := Lib.hid hR; replace hB := Lib.hid hB; replace hF := Lib.hid hF; replace hin := Lib.hid hin; replace hD := Lib.hid hD; replace hp := Lib.hid hp; replace hm0 := Lib.hid hm0; replace hm1 := Lib.hid hm1; replace hz := Lib.hid hz; replace hnd := Lib.hid hnd; replace hie := Lib.hid hie; replace hAG := Lib.hid hAG
      have hz2 : z = false ∨ (z = true ∧ m0 = m1) := by
        cases z
        · exact .inl rfl
        · exact .inr ⟨rfl, hAG.out rfl⟩
      by_cases h3 : 300 < nd
      · have h3I : (300 : Int) < nd := by omega
        have hc5 := (K1.out h3).1
        have hc5I : (300 : Int) ≤ c5 := by omega
        have C := Lib.hid (hPl.out _ (K1.out h3).2)
        rcases hz2 with rfl | ⟨rfl, rfl⟩
        · clear hAG
          go_wp2_with fail
          refine C.out.mono ?_
          rintro e w5 ⟨rfl, f5⟩
          have F5 := Lib.hid ((hF.out.trans f5).alloc (.cells #[.int .i64 m0, .int .i64 m1] 23))
          clear f5
          go_wp2_with fail
          refine (sane_any _).mono ?_
          rintro e w9 ⟨rfl, f9⟩
          have F9 := Lib.hid (F5.out.trans f9)
          clear f9
          go_wp2_with fail
          go_ret
          exact ⟨rfl, F9.out⟩
        · clear hAG
          go_wp2_with fail
          refine C.out.mono ?_
          rintro e w5 ⟨rfl, f5⟩
          have F5 := Lib.hid ((hF.out.trans f5).alloc (.cells #[.int .i64 m0, .int .i64 m0] 23))
          clear f5
          go_wp2_with fail
          refine (sane_any _).mono ?_
          rintro e w9 ⟨rfl, f9⟩
          have F9 := Lib.hid (F5.out.trans f9)
          clear f9
          go_wp2_with fail
          go_ret
          exact ⟨rfl, F9.out⟩
      · have h3I : ¬ (300 : Int) < nd := by omega
        have C := Lib.hid (hPl.out _ (K2.out h3))
        rcases hz2 with rfl | ⟨rfl, rfl⟩
        · clear hAG
          go_wp2_with fail
          refine C.out.mono ?_
          rintro e w5 ⟨rfl, f5⟩
          have F5 := Lib.hid ((hF.out.trans f5).alloc (.cells #[.int .i64 m0, .int .i64 m1] 23))
          clear f5
          go_wp2_with fail
          refine (sane_any _).mono ?_
          rintro e w9 ⟨rfl, f9⟩
          have F9 := Lib.hid (F5.out.trans f9)
          clear f9
          go_wp2_with fail
          go_ret
          exact ⟨rfl, F9.out⟩
        · clear hAG
          go_wp2_with fail
          refine C.out.mono ?_
          rintro e w5 ⟨rfl, f5⟩
          have F5 := Lib.hid ((hF.out.trans f5).alloc (.cells #[.int .i64 m0, .int .i64 m0] 23))
          clear f5
          go_wp2_with fail
          refine (sane_any _).mono ?_
          rintro e w9 ⟨rfl, f9⟩
          have F9 := Lib.hid (F5.out.trans f9)
          clear f9
          go_wp2_with fail
          go_ret
          exact ⟨rfl, F9.out⟩
theorem agrees_any (N : Int) (dv : Value) (ll : List (List Int)) (w : World) (hD : IntRows w dv ll) :
    Calls Try.prog 7 #[.int .i64 N, dv] w fun e w' => e = .returned (.bool true) ∧ Fr [] w w' := by
  by_cases hx : N < 0 ∨ 900000 < N ∨ 30 < ll.length
  · exact agrees_out N dv ll w hD hx
  · exact agrees_in N dv ll w hD (by omega) (by omega)
end Go.Proofs.Ytjgmlnkbplgloaa
