import Derived.Test.YtnggimkkjdipmaaTL8
import Derived.Test.YtnggimkkjdipmaaTD5
namespace Go.Proofs.Ytnggimkkjdipmaa
open Go.RowKit
set_option linter.unusedVariables false
set_option linter.unusedSimpArgs false
set_option maxHeartbeats 16000000
set_option maxRecDepth 100000
/-! ### The reference's order and its put -/
theorem byLen_ne {a b : List Int} (h : ¬ (a.length : Int) = b.length) : decide (byLen a b < 0) = decide ((a.length : Int) < b.length) := by
  unfold byLen
  have h0 : ¬ cmpI a.length b.length = 0 := fun e => h ((cmpI_eq _ _).mp e)
  rw [if_neg h0, decide_eq_decide]
  exact cmpI_lt _ _
theorem byLen_eqlen {a b : List Int} (h : (a.length : Int) = b.length) : byLen a b = cmpL a b := by
  unfold byLen
  rw [if_pos ((cmpI_eq _ _).mpr h)]
theorem rless_any (v1 v2 : Value) (a b : List Int) (w : World) (h1 : NIn w v1 a) (h2 : NIn w v2 b) (ha : a.length ≤ 1000000) (hb : b.length ≤ 1000000) :
    Calls Try.prog 101 #[v1, v2] w fun e w' => e = .returned (.bool (decide (byLen a b < 0))) ∧ Fr [] w w' := by
  obtain ⟨o1, c1, rfl, hl1⟩ := h1
  obtain ⟨o2, c2, rfl, hl2⟩ := h2
  by_cases hab : (a.length : Int) = b.length
  · have habn : a.length = b.length := by omega
    rw [byLen_eqlen hab]
    obtain ⟨c, hc⟩ : ∃ c, cmpL a b = c := ⟨_, rfl⟩
    rw [hc]
    rw [← habn]
    replace hl1 := Lib.hid hl1; replace hl2 := Lib.hid hl2; replace hc := Lib.hid hc; replace habn := Lib.hid habn
    clear hab
    go_enter Try.func101, Try.ntmps101
    go_wp2_with fail
    go_loopg [5] (a.length + 1) (fun k v5 wr => ∃ i : Nat, i ≤ a.length ∧ k + i = a.length + 1 ∧ v5 = .int .i64 i ∧ a.take i = b.take i ∧ Fr [] w wr)
    case atStart => exact ⟨0, by omega, by omega, rfl, by simp, Fr.refl _ _⟩
    case round =>
      obtain ⟨i, hi, hk, rfl, htk, hF⟩ := hrel
      obtain ⟨wi, rfl⟩ : ∃ x : World, x = wr := ⟨_, rfl⟩
      have hbl := habn.out
      have hdr := cmpL_drop a b i htk hi (by omega)
      rw [hc.out] at hdr
      by_cases hlt : i < a.length
      · have hltI : (i : Int) < a.length := by omega
        have hltb : i < b.length := by omega
        obtain ⟨B1, f1, rfl, hB1, x1⟩ := hl1.out i hlt
        obtain ⟨B2, f2, rfl, hB2, y1⟩ := hl2.out i hltb
        have x1 := (hF.cell (p := ⟨B1, f1 + i, none⟩) hB1 (by simp)).trans x1
        have y1 := (hF.cell (p := ⟨B2, f2 + i, none⟩) hB2 (by simp)).trans y1
        have FD : Fr [] w wi.drew := hF.drew
        rw [List.drop_eq_getElem_cons hlt, List.drop_eq_getElem_cons hltb] at hdr
        have hts := List.take_succ_eq_append_getElem hlt
        have htsb := List.take_succ_eq_append_getElem hltb
        obtain ⟨x, hx⟩ : ∃ x, a[i] = x := ⟨_, rfl⟩
        obtain ⟨y, hy⟩ : ∃ x, b[i] = x := ⟨_, rfl⟩
        rw [hx] at x1 hdr hts
        rw [hy] at y1 hdr htsb
        unfold cmpL at hdr
        by_cases hq0 : x = y
        · subst hq0
          have htk2 : a.take (i + 1) = b.take (i + 1) := by rw [hts, htsb, htk]
          replace hdr := Lib.hid hdr; replace hts := Lib.hid hts; replace htsb := Lib.hid htsb; replace hx := Lib.hid hx; replace hy := Lib.hid hy; replace htk := Lib.hid htk; replace htk2 := Lib.hid htk2; replace hbl := Lib.hid hbl; replace hF := Lib.hid hF; replace FD := Lib.hid FD
          go_upto_region 6 with fail
          go_region
          go_wp2_with fail
          go_roundg (gk - 1)
          case measure => omega
          case rel => exact ⟨i + 1, by omega, by omega, by go_num, htk2.out, FD.out⟩
        · have hqb : (x != y) = true := by simpa using hq0
          rw [if_neg (fun e => hq0 ((cmpI_eq x y).mp e))] at hdr
          have hres : decide (c < 0) = decide (x < y) := by
            rw [decide_eq_decide, ← cmpI_lt x y]
            first | rw [hdr] | rw [← hdr]
          replace hdr := Lib.hid hdr; replace hts := Lib.hid hts; replace htsb := Lib.hid htsb; replace hx := Lib.hid hx; replace hy := Lib.hid hy; replace htk := Lib.hid htk; replace hbl := Lib.hid hbl; replace hq0 := Lib.hid hq0; replace hres := Lib.hid hres; replace hF := Lib.hid hF; replace FD := Lib.hid FD
          go_upto_region 6 with fail
          go_region
          go_upto_region 7 with fail
          go_region
          go_wp2_with fail
          go_ret
          exact ⟨ret_b hres.out.symm, FD.out.drew⟩
      · have hltI : ¬ (i : Int) < a.length := by omega
        rw [List.drop_eq_nil_of_le (by omega), List.drop_eq_nil_of_le (by omega)] at hdr
        have hc0 : c = 0 := by unfold cmpL at hdr; first | exact hdr | exact hdr.symm
        replace hdr := Lib.hid hdr; replace htk := Lib.hid htk; replace hbl := Lib.hid hbl; replace hc0 := Lib.hid hc0; replace hF := Lib.hid hF
        go_wp2_with fail
        go_ret
        exact ⟨ret_b (by rw [hc0.out]; rfl), hF.out⟩
  · rw [byLen_ne hab]
    replace hl1 := Lib.hid hl1; replace hl2 := Lib.hid hl2
    go_enter Try.func101, Try.ntmps101
    go_wp2_with fail
    go_ret
    exact ⟨ret_b (decide_eq_decide.mpr (by omega)), Fr.refl _ _⟩
end Go.Proofs.Ytnggimkkjdipmaa
namespace Go.Proofs.Ytnggimkkjdipmaa
open Go.RowKit
set_option linter.unusedVariables false
set_option linter.unusedSimpArgs false
set_option maxHeartbeats 16000000
set_option maxRecDepth 100000
/-- put by place: what the bisection finds. -/
theorem insW_at (w : List Int) : ∀ (l : List (List Int)) (lo : Nat), lo ≤ l.length → (∀ i (h : i < l.length), i < lo → byLen l[i] w < 0) → (∀ (h : lo < l.length), ¬ byLen l[lo] w < 0) →
    insW w l = if l[lo]? = some w then l else l.take lo ++ w :: l.drop lo
  | [], lo, h, _, _ => by
    have : lo = 0 := by simpa using h
    subst this
    simp [insW]
  | x :: l, 0, h, h1, h2 => by
    have h3 := h2 (by simp)
    have e := byLen_flip x w
    have z := byLen_zero x w
    simp only [List.getElem_cons_zero] at h3
    unfold insW
    rw [if_neg h3]
    by_cases hx : x = w
    · rw [if_pos hx]; simp [hx]
    · rw [if_neg hx]; simp [hx]
  | x :: l, lo + 1, h, h1, h2 => by
    have h3 := h1 0 (by simp) (by omega)
    simp only [List.getElem_cons_zero] at h3
    have ih := insW_at w l lo (by simpa using h) (fun i hi hl => h1 (i + 1) (Nat.succ_lt_succ hi) (by omega)) (fun hl => h2 (Nat.succ_lt_succ hl))
    unfold insW
    rw [if_pos h3, ih]
    simp only [List.getElem?_cons_succ, List.take_succ_cons, List.drop_succ_cons, List.cons_append]
    split <;> rfl
end Go.Proofs.Ytnggimkkjdipmaa
namespace Go.Proofs.Ytnggimkkjdipmaa
open Go.RowKit
set_option linter.unusedVariables false
set_option linter.unusedSimpArgs false
set_option maxHeartbeats 16000000
set_option maxRecDepth 100000
/-! ### The reference's put -/
/-- One's words, read. -/
def WSl (w : World) (v : Value) (ps : List (Value × List Int)) : Prop :=
  ((ps = [] ∧ v = .slice none 0 0) ∨ ∃ b off cap, v = .slice (some ⟨b, off, none⟩) ps.length cap ∧ 0 < ps.length ∧ ps.length ≤ cap ∧ b < w.heap.size ∧ ∀ i (h : i < ps.length), w.cell? ⟨b, off + i, none⟩ = some ps[i].1) ∧ ∀ p ∈ ps, NIn w p.1 p.2
theorem WSl.fr {w W : World} {v : Value} {ps : List (Value × List Int)} (h : WSl w v ps) (f : Fr [] w W) : WSl W v ps := by
  obtain ⟨h1, h2⟩ := h
  refine ⟨?_, fun p hp => (h2 p hp).fr f⟩
  rcases h1 with h1 | ⟨b, off, cap, h3, h4, h5, h6, h7⟩
  · exact .inl h1
  · exact .inr ⟨b, off, cap, h3, h4, h5, by have := f.size; omega, fun i hi => by rw [f.cell (p := ⟨b, off + i, none⟩) h6 (by simp)]; exact h7 i hi⟩
theorem NIn.one1 {w : World} {v : Value} {l : List Int} (h : NIn w v l) : v.oneCell' = true := by
  obtain ⟨o, cap, rfl, _⟩ := h
  rfl
theorem WSl.sin {w : World} {v : Value} {ps : List (Value × List Int)} (h : WSl w v ps) : SIn w v (wds ps) := by
  obtain ⟨h1, h2⟩ := h
  unfold wds
  rcases h1 with ⟨rfl, rfl⟩ | ⟨b, off, cap, rfl, h4, h5, h6, h7⟩
  · exact ⟨none, 0, rfl, fun i hi => by simp at hi⟩
  · refine ⟨_, cap, by rw [List.length_map], fun i hi => ?_⟩
    have hi' : i < ps.length := by simpa using hi
    refine ⟨b, off, ps[i].1, rfl, h6, h7 i hi', ?_⟩
    have := h2 ps[i] (List.getElem_mem hi')
    simpa using this
theorem Row.wsl {w : World} {v : Value} {ps : List (Value × List Int)} {bo : Option Nat} (h : Row 1 w v ps.length (ps.map (·.1)) bo) (hp : 0 < ps.length) (he : ∀ p ∈ ps, NIn w p.1 p.2) : WSl w v ps := by
  refine ⟨.inr ?_, he⟩
  rcases h with ⟨_, h2, _⟩ | ⟨b, off, cap, hb, e, h3, h4, _, _, h7⟩
  · omega
  · refine ⟨b, off, cap, e, hp, h3, h4, fun i hi => ?_⟩
    rw [h7 i (by omega)]; simp [hi]
/-- Any words behind a row. -/
theorem Row.appS {w : World} {v : Value} {us : List Value} {bo : Option Nat} (h : Row 1 w v us.length us bo) (news : List Value) (hn : (us.length + news.length) * 24 ≤ 140737488355328) (o : Option Addr) (c : Nat)
    (hc : ∀ j (h : j < news.length), ∃ b off, o = some ⟨b, off, none⟩ ∧ w.cell? ⟨b, off + j, none⟩ = some news[j]) (h1 : ∀ u ∈ news, u.oneCell' = true) :
    ∃ v' w' bo', (Builtin.append_ #[53, 53] 53 #[v, .slice o news.length c]).run Try.prog w = .ok v' w' ∧
      Row 1 w' v' (us ++ news).length (us ++ news) bo' ∧ (bo' = bo ∨ bo' = some w.heap.size) ∧ Fr bo.toList w w' := by
  cases hnw : news with
  | nil =>
    have hz : iWd.size = 1 := by kernel_rfl
    have key : ∀ (base : Option Addr) (n cap : Nat), n ≤ cap → (Builtin.append_ #[53, 53] 53 #[.slice base n cap, .slice o 0 c]).run Try.prog w = .ok (.slice base n cap) w := fun base n cap hle => by
      cases o with
      | none => exact run_append_nothing w 53 53 53 25 iWd uWds infoWd base n cap hle _ (Src.ofNil _ uWds c)
      | some a => exact run_append_nothing w 53 53 53 25 iWd uWds infoWd base n cap hle _ (Src.ofSlice _ uWds a 0 c [] (by simp) (by simp) (by simp))
    refine ⟨v, w, bo, ?_, by simpa using h, .inl rfl, Fr.refl _ _⟩
    rcases h with ⟨_, h2, _, o2, rfl⟩ | ⟨b, off, cap, hb, rfl, h3, _⟩
    · exact key o2 0 0 (Nat.le_refl _)
    · exact key _ _ cap h3
  | cons x xs =>
    rw [hnw] at hc h1 hn
    obtain ⟨b, off, rfl, _⟩ := hc 0 (by simp)
    have hsrc : Src Try.prog 1 53 (.slice (some ⟨b, off, none⟩) (x :: xs).length c) (x :: xs).length (x :: xs) w := Src.ofSlice _ uWds ⟨b, off, none⟩ _ c _ (by omega) (fun j u hu => by
      have hj : j < (x :: xs).length := by
        rcases Nat.lt_or_ge j (x :: xs).length with h | h
        · exact h
        · rw [List.getElem?_eq_none h] at hu; cases hu
      obtain ⟨b', off', e, hcj⟩ := hc j hj
      cases e
      rw [Addr.add_lit]
      rw [List.getElem?_eq_getElem hj] at hu
      cases hu
      exact hcj) h1
    exact h.appendW (t := 53) (ty := 53) (e := 25) (i := iWd) (z := zWd) uWds infoWd (by kernel_rfl) (by kernel_rfl) (by omega) (by kernel_rfl) hsrc (by simp) (by rw [bytesWd]; exact hn) (by omega) |>.imp fun v' h => h.imp fun w' h => h.imp fun bo' h => ⟨h.1, by rw [List.length_append]; exact h.2.1, h.2.2⟩
theorem Row.of1 (w : World) (v : Value) : Row 1 (w.alloc (.cells #[v] 25)) (.slice (some ⟨w.heap.size, 0, none⟩) 1 1) 1 [v] (some w.heap.size) := by
  have P1 := Pt.newA w 25 #[v]
  refine .inr ⟨w.heap.size, 0, 1, rfl, rfl, Nat.le_refl _, P1.lt, rfl, fun j hj => ?_, fun j hj => ?_⟩
  · have : j = 0 := by omega
    subst this
    exact ⟨by rw [P1.cell]; rfl, P1.free 0⟩
  · have : j = 0 := by omega
    subst this
    rw [P1.cell]
theorem insW_len (w : List Int) (l : List (List Int)) : (insW w l).length ≤ l.length + 1 := by
  induction l with
  | nil => simp [insW]
  | cons x l ih =>
    unfold insW
    split
    · simp; omega
    · split <;> simp
theorem Asc.lo {l : List (List Int)} (h : Asc l) {w : List Int} {m : Nat} (hm : m < l.length) (hb : byLen l[m] w < 0) (i : Nat) (hi : i ≤ m) (hil : i < l.length) : byLen l[i] w < 0 := by
  rcases Nat.lt_or_ge i m with h1 | h1
  · exact byLen_trans _ _ _ (List.pairwise_iff_getElem.mp h i m hil hm h1) hb
  · obtain rfl : i = m := by omega
    exact hb
theorem Asc.hi {l : List (List Int)} (h : Asc l) {w : List Int} {m : Nat} (hm : m < l.length) (hb : ¬ byLen l[m] w < 0) (i : Nat) (hi : m ≤ i) (hil : i < l.length) : ¬ byLen l[i] w < 0 := fun hc => hb (h.lo hil hc m hi hm)
def PutR (L : List (List Int)) (w : World) (e : Ending) (w' : World) : Prop := ∃ v' ps', e = .returned v' ∧ wds ps' = L ∧ WSl w' v' ps' ∧ Fr [] w w'
/-- The place that the bisection finds. -/
structure LoI (l : List (List Int)) (w : List Int) (lo : Nat) : Prop where
  le : lo ≤ l.length
  lt : ∀ i (h : i < l.length), i < lo → byLen l[i] w < 0
  ge : ∀ (h : lo < l.length), ¬ byLen l[lo] w < 0
theorem LoI.ins {l : List (List Int)} {w : List Int} {lo : Nat} (h : LoI l w lo) : insW w l = if l[lo]? = some w then l else l.take lo ++ w :: l.drop lo := insW_at w l lo h.le h.lt h.ge
/-- Words that are read, from some place on. -/
def SrcW (w : World) (o : Option Addr) (us : List Value) : Prop := ∀ j (h : j < us.length), ∃ b off, o = some ⟨b, off, none⟩ ∧ b < w.heap.size ∧ w.cell? ⟨b, off + j, none⟩ = some us[j]
theorem SrcW.fr {w W : World} {o : Option Addr} {us : List Value} (h : SrcW w o us) (f : Fr [] w W) : SrcW W o us := fun j hj => by
  obtain ⟨b, off, e, hb, hc⟩ := h j hj
  exact ⟨b, off, e, Nat.lt_of_lt_of_le hb f.size, (f.cell (p := ⟨b, off + j, none⟩) hb (by simp)).trans hc⟩
theorem SrcW.nil (w : World) (o : Option Addr) : SrcW w o [] := fun j hj => by simp at hj
theorem SrcW.drop {w : World} {b off : Nat} {us : List Value} (h : SrcW w (some ⟨b, off, none⟩) us) (k : Nat) : SrcW w (some ⟨b, off + k, none⟩) (us.drop k) := fun j hj => by
  have hj' : k + j < us.length := by rw [List.length_drop] at hj; omega
  obtain ⟨b', off', e, hb, hc⟩ := h (k + j) hj'
  cases e
  exact ⟨b, off + k, rfl, hb, by rw [Nat.add_assoc, hc]; simp⟩
theorem SrcW.take {w : World} {o : Option Addr} {us : List Value} (h : SrcW w o us) (k : Nat) : SrcW w o (us.take k) := fun j hj => by
  have hj' : j < us.length := by rw [List.length_take] at hj; omega
  obtain ⟨b', off', e, hb, hc⟩ := h j hj'
  exact ⟨b', off', e, hb, by rw [hc]; simp⟩
theorem Row.srcw {w : World} {v : Value} {us : List Value} {bo : Option Nat} (h : Row 1 w v us.length us bo) : ∃ o c, v = .slice o us.length c ∧ SrcW w o us := by
  rcases h with ⟨_, h2, _, o, rfl⟩ | ⟨b, off, cap, hb, rfl, h3, h4, _, _, h7⟩
  · exact ⟨o, 0, by rw [h2], fun j hj => by omega⟩
  · exact ⟨_, cap, rfl, fun j hj => ⟨b, off, rfl, h4, by rw [h7 j (by omega), List.getElem?_eq_getElem hj]⟩⟩
theorem put_st1 {w W2 : World} {v2 : Value} (us : List Value) (o3 : Option Addr) (c3 : Nat) (hs : SrcW w o3 us) (f : Fr [] w W2) (h1 : ∀ u ∈ us, u.oneCell' = true) (hn : us.length ≤ 2000000) :
    ∃ v4 w4 b4, (Builtin.append_ #[53, 53] 53 #[.slice (some ⟨W2.heap.size, 0, none⟩) 1 1, .slice o3 us.length c3]).run Try.prog (W2.alloc (.cells #[v2] 25)) = .ok v4 w4 ∧
      Row 1 w4 v4 (v2 :: us).length (v2 :: us) b4 ∧ (∀ z, b4 = some z → W2.heap.size ≤ z) ∧ Fr [] W2 w4 := by
  have f3 : Fr [] W2 (W2.alloc (.cells #[v2] 25)) := (Fr.refl [] W2).alloc _
  have hs3 := (hs.fr f).fr f3
  have r1 : Row 1 (W2.alloc (.cells #[v2] 25)) (.slice (some ⟨W2.heap.size, 0, none⟩) 1 1) [v2].length [v2] (some W2.heap.size) := Row.of1 W2 v2
  obtain ⟨v4, w4, b4, hrun, hr4, hb4, f4⟩ := r1.appS us (by simp; omega) o3 c3 (fun j hj => by
    obtain ⟨b, off, e, _, hc⟩ := hs3 j hj
    exact ⟨b, off, e, hc⟩) h1
  refine ⟨v4, w4, b4, hrun, hr4, fun z hz => ?_, f3.step f4 (fun z hz => .inr (by simp at hz; omega))⟩
  rcases hb4 with e | e
  · rw [hz] at e; cases e; exact Nat.le_refl _
  · rw [hz] at e; cases e; exact f3.size
theorem put_st2 {w W4 : World} {v4 : Value} (us1 us2 : List Value) (o6 : Option Addr) (c6 : Nat) (hs : SrcW w o6 us1) (f : Fr [] w W4) (b4 : Option Nat) (hr : Row 1 W4 v4 us2.length us2 b4) (h1 : ∀ u ∈ us1, u.oneCell' = true) (h2 : ∀ u ∈ us2, u.oneCell' = true) (hn : us1.length ≤ 2000000) (hn2 : us2.length ≤ 2000000) :
    ∃ v6 w6 v7 w7 b7, (Builtin.append_ #[53, 53] 53 #[.slice (some ⟨W4.heap.size, 0, none⟩) 0 0, .slice o6 us1.length c6]).run Try.prog (W4.alloc (.cells #[] 25)) = .ok v6 w6 ∧
      (Builtin.append_ #[53, 53] 53 #[v6, v4]).run Try.prog w6 = .ok v7 w7 ∧ Row 1 w7 v7 (us1 ++ us2).length (us1 ++ us2) b7 ∧ Fr [] W4 w7 := by
  have f5 : Fr [] W4 (W4.alloc (.cells #[] 25)) := (Fr.refl [] W4).alloc _
  have hs5 := (hs.fr f).fr f5
  obtain ⟨v6, w6, b6, hrun, hr6, hb6, f6⟩ := (Row.nil 1 (W4.alloc (.cells #[] 25)) (some ⟨W4.heap.size, 0, none⟩)).appS (us := []) us1 (by simp; omega) o6 c6 (fun j hj => by
    obtain ⟨b, off, e, _, hc⟩ := hs5 j hj
    exact ⟨b, off, e, hc⟩) h1
  have f6' : Fr [] (W4.alloc (.cells #[] 25)) w6 := f6.mono (by simp)
  obtain ⟨o4, c4, rfl, hs4⟩ := (hr.fr (f5.trans f6') (by simp)).srcw
  rw [List.nil_append] at hr6
  obtain ⟨v7, w7, b7, hrun7, hr7, hb7, f7⟩ := hr6.appS us2 (by omega) o4 c4 (fun j hj => by
    obtain ⟨b, off, e, _, hc⟩ := hs4 j hj
    exact ⟨b, off, e, hc⟩) h2
  refine ⟨v6, w6, v7, w7, b7, hrun, hrun7, hr7, (f5.trans f6').step f7 (fun z hz => .inr ?_)⟩
  have hz' : b6 = some z := by simpa using hz
  rcases hb6 with e | e
  · rw [hz'] at e; cases e
  · rw [hz'] at e; cases e; exact f5.size
theorem LoI.put {ps : List (Value × List Int)} {word : List Int} {lo : Nat} (h : LoI (wds ps) word lo) (hne : (wds ps)[lo]? ≠ some word) (v2 : Value) : wds (ps.take lo ++ (v2, word) :: ps.drop lo) = insW word (wds ps) := by
  rw [h.ins, if_neg hne]
  unfold wds
  rw [List.map_append, List.map_cons, List.map_take, List.map_drop]
/-- put. -/
theorem rput_any (v wv : Value) (ps : List (Value × List Int)) (word : List Int) (w : World) (h : WSl w v ps) (hw : NIn w wv word) (hA : Asc (wds ps)) (hl : ps.length ≤ 1000000) (hlw : word.length ≤ 900000) (hlp : ∀ p ∈ ps, p.2.length ≤ 900000) :
    Calls Try.prog 83 #[v, wv] w (PutR (insW word (wds ps)) w) := by
  have hln : (wds ps).length = ps.length := by unfold wds; exact List.length_map _
  obtain ⟨n, cap, hvn⟩ : ∃ o cap, v = .slice o ps.length cap := by
    rcases h.1 with ⟨rfl, rfl⟩ | ⟨b, off, cap, rfl, _⟩
    · exact ⟨_, _, rfl⟩
    · exact ⟨_, _, rfl⟩
  have LC : ∀ (W : World) (i : Nat) (hi : i < ps.length), Fr [] w W → Calls Try.prog 101 #[ps[i].1, wv] W fun e w' => e = .returned (.bool (decide (byLen ps[i].2 word < 0))) ∧ Fr [] W w' := fun W i hi f =>
    rless_any _ _ _ _ W ((h.2 _ (List.getElem_mem hi)).fr f) (hw.fr f) (by have := hlp _ (List.getElem_mem hi); omega) (by omega)
  have IC : ∀ (W : World) (i : Nat) (hi : i < ps.length), Fr [] w W → Calls Try.prog 21 #[ps[i].1, wv] W fun e w' => e = .returned (.bool (decide (ps[i].2 = word))) ∧ Fr [] W w' := fun W i hi f =>
    ints_any _ _ _ _ W ((h.2 _ (List.getElem_mem hi)).fr f) (hw.fr f) (by have := hlp _ (List.getElem_mem hi); omega)
  have CC : ∀ (W : World), Fr [] w W → Calls Try.prog 84 #[wv] W fun e w' => ∃ v', (∃ bo, e = .returned v' ∧ Row 1 w' v' word.length (ints word) bo ∧ (∀ z, bo = some z → W.heap.size ≤ z)) ∧ Fr [] W w' := fun W f =>
    (rcopy_any _ _ W (hw.fr f) (by omega)).mono fun e w' ⟨v', bo, h1, h2, h3, h4⟩ => ⟨v', ⟨bo, h1, h2, h3⟩, h4⟩
  have hget : ∀ i (hi : i < ps.length), (wds ps)[i]'(by omega) = ps[i].2 := fun i hi => by unfold wds; simp
  have LI : ∀ lo, lo ≤ ps.length → (∀ i (hi : i < ps.length), i < lo → byLen ps[i].2 word < 0) → (∀ i (hi : i < ps.length), lo ≤ i → 0 ≤ byLen ps[i].2 word) → LoI (wds ps) word lo := fun lo h1 h2 h3 =>
    ⟨by omega, fun i hi hl => by rw [hget i (by omega)]; exact h2 i (by omega) hl, fun hi => by rw [hget lo (by omega)]; have := h3 lo (by omega) (Nat.le_refl _); omega⟩
  have hS := h
  obtain ⟨hC, hE⟩ := h
  subst hvn
  have hsw : SrcW w n (ps.map (·.1)) := fun i hi => by
    have hi' : i < ps.length := by simpa using hi
    rcases hC with ⟨rfl, _⟩ | ⟨b, off, cap', e, _, _, h6, h7⟩
    · simp at hi
    · cases e; exact ⟨b, off, rfl, h6, by rw [h7 i hi']; simp⟩
  have hcell : ∀ i (hi : i < ps.length), ∃ b off, n = some ⟨b, off, none⟩ ∧ b < w.heap.size ∧ w.cell? ⟨b, off + i, none⟩ = some ps[i].1 := fun i hi => by
    obtain ⟨b, off, e, h1, h2⟩ := hsw i (by simpa using hi)
    exact ⟨b, off, e, h1, by rw [h2]; simp⟩
  have hcap : (ps.length = 0 ∧ n = none ∧ cap = 0) ∨ (∃ b off, n = some ⟨b, off, none⟩ ∧ 0 < ps.length ∧ ps.length ≤ cap) := by
    rcases hC with ⟨rfl, e⟩ | ⟨b, off, cap', e, h2, h3, _⟩
    · cases e; exact .inl ⟨rfl, rfl, rfl⟩
    · cases e; exact .inr ⟨b, off, rfl, h2, h3⟩
  have h1c : ∀ u ∈ ps.map (·.1), u.oneCell' = true := fun u hu => by
    obtain ⟨p, hp, rfl⟩ := List.mem_map.mp hu
    exact (hE p hp).one1
  have FIN : ∀ (lo : Nat) (W7 : World) (v2 v7 : Value) (b7 : Option Nat), LoI (wds ps) word lo → (wds ps)[lo]? ≠ some word → NIn W7 v2 word → Fr [] w W7 → Row 1 W7 v7 ((ps.map (·.1)).take lo ++ v2 :: (ps.map (·.1)).drop lo).length ((ps.map (·.1)).take lo ++ v2 :: (ps.map (·.1)).drop lo) b7 → PutR (insW word (wds ps)) w (.returned v7) W7 := fun lo W7 v2 v7 b7 hL hne hv2 f hr => by
    have e1 : (ps.map (·.1)).take lo ++ v2 :: (ps.map (·.1)).drop lo = (ps.take lo ++ (v2, word) :: ps.drop lo).map (·.1) := by
      rw [List.map_append, List.map_cons, List.map_take, List.map_drop]
    rw [e1, List.length_map] at hr
    refine ⟨v7, _, rfl, hL.put hne v2, hr.wsl (by simp; omega) (fun p hp => ?_), f⟩
    rcases List.mem_append.mp hp with hp | hp
    · exact (hE p (List.mem_of_mem_take hp)).fr f
    · rcases List.mem_cons.mp hp with rfl | hp
      · exact hv2
      · exact (hE p (List.mem_of_mem_drop hp)).fr f
  obtain ⟨N, hN⟩ : ∃ N, ps.length = N := ⟨_, rfl⟩
  have hlm : (ps.map (·.1)).length = N := by rw [List.length_map, hN]
  have hN1 : N ≤ 1000000 := by omega
  rw [hN]
  replace hC := Lib.hid hC; replace hE := Lib.hid hE; replace hS := Lib.hid hS; replace LC := Lib.hid LC; replace IC := Lib.hid IC; replace CC := Lib.hid CC; replace LI := Lib.hid LI; replace FIN := Lib.hid FIN; replace hget := Lib.hid hget; replace hA := Lib.hid hA; replace hw := Lib.hid hw; replace hlp := Lib.hid hlp; replace hcell := Lib.hid hcell; replace hsw := Lib.hid hsw; replace hcap := Lib.hid hcap; replace hN := Lib.hid hN; replace hlm := Lib.hid hlm; replace hlw := Lib.hid hlw; replace h1c := Lib.hid h1c; replace hln := Lib.hid hln
  clear hl
  go_enter Try.func83, Try.ntmps83
  go_wp2_with fail
  go_loopg [5, 6] (N + 1) (fun k v5 v6 wr => ∃ lo hi : Nat, lo ≤ hi ∧ hi ≤ N ∧ k + lo = hi + 1 ∧ v5 = .int .i64 lo ∧ v6 = .int .i64 hi ∧ (∀ i (h : i < ps.length), i < lo → byLen ps[i].2 word < 0) ∧ (∀ i (h : i < ps.length), hi ≤ i → 0 ≤ byLen ps[i].2 word) ∧ Fr [] w wr)
  case atStart => exact ⟨0, N, by omega, by omega, by omega, by go_num, by go_num, fun i _ h => by omega, fun i h h2 => by have := hN.out; omega, Fr.refl _ _⟩
  case round =>
    obtain ⟨lo, hi, h1, h2, hk, rfl, rfl, hlo, hhi, hF⟩ := hrel
    obtain ⟨wi, rfl⟩ : ∃ x : World, x = wr := ⟨_, rfl⟩
    by_cases hlt : lo < hi
    · as_aux_lemma =>
      have hltI : (lo : Int) < (hi : Int) := by omega
      obtain ⟨md, hmd⟩ : ∃ m, (lo + hi) / 2 = m := ⟨_, rfl⟩
      have hm1 : lo ≤ md ∧ md < hi := by omega
      have hm2 : md < ps.length := by have := hN.out; omega
      have hm2I : (md : Int) < N := by omega
      have hquo : ((lo : Int) + (hi : Int)) / 2 = (md : Int) := by omega
      obtain ⟨b, off, rfl, hb, c1⟩ := hcell.out md hm2
      have c1 := (hF.cell (p := ⟨b, off + md, none⟩) hb (by simp)).trans c1
      have C := LC.out wi md hm2 hF
      have hmu := hget.out md hm2
      obtain ⟨pv, hpv⟩ : ∃ x, ps[md].1 = x := ⟨_, rfl⟩
      obtain ⟨bb, hbb⟩ : ∃ x, decide (byLen ps[md].2 word < 0) = x := ⟨_, rfl⟩
      rw [hpv] at c1 C
      rw [hbb] at C
      replace hlo := Lib.hid hlo; replace hhi := Lib.hid hhi; replace hF := Lib.hid hF; replace C := Lib.hid C; replace hmu := Lib.hid hmu; replace hpv := Lib.hid hpv; replace hb := Lib.hid hb; replace hmd := Lib.hid hmd; replace hm1 := Lib.hid hm1; replace hbb := Lib.hid hbb
      go_wp2_with fail
      refine C.out.mono ?_
      rintro e w2 ⟨rfl, f2⟩
      have GF := hF.out.trans f2
      cases bb
      · have hhi2 : ∀ i (h : i < ps.length), md ≤ i → 0 ≤ byLen ps[i].2 word := fun i h hi => by
          have := hA.out.hi (m := md) (by have := hln.out; omega) (w := word) (by rw [hmu.out]; exact of_decide_eq_false hbb.out) i hi (by have := hln.out; omega)
          rw [hget.out i h] at this; omega
        clear hltI hm2I
        replace f2 := Lib.hid f2; replace GF := Lib.hid GF; replace hhi2 := Lib.hid hhi2
        go_wp2_with fail
        go_roundg (md - lo + 1)
        case measure => have := hm1.out; omega
        case rel => exact ⟨lo, md, by have := hm1.out; omega, by have := hm1.out; omega, by have := hm1.out; omega, by go_num, by go_num, hlo.out, hhi2.out, GF.out⟩
      · have hlo2 : ∀ i (h : i < ps.length), i < md + 1 → byLen ps[i].2 word < 0 := fun i h hi => by
          have := hA.out.lo (m := md) (by have := hln.out; omega) (w := word) (by rw [hmu.out]; exact of_decide_eq_true hbb.out) i (by omega) (by have := hln.out; omega)
          rw [hget.out i h] at this; exact this
        clear hltI hm2I
        replace f2 := Lib.hid f2; replace GF := Lib.hid GF; replace hlo2 := Lib.hid hlo2
        go_wp2_with fail
        go_roundg (hi - (md + 1) + 1)
        case measure => have := hm1.out; omega
        case rel => exact ⟨md + 1, hi, by have := hm1.out; omega, by omega, by have := hm1.out; omega, by go_num, by go_num, hlo2.out, hhi.out, GF.out⟩
    · obtain rfl : lo = hi := by omega
      have hltI : ¬ (lo : Int) < (lo : Int) := by omega
      have hL := LI.out lo (by have := hN.out; omega) hlo hhi
      have hins := hL.ins
      by_cases hlN : lo < N
      · have hlNI : (lo : Int) < (N : Int) := by omega
        have hlp2 : lo < ps.length := by have := hN.out; omega
        obtain ⟨b, off, rfl, hb, c1⟩ := hcell.out lo hlp2
        have c1 := (hF.cell (p := ⟨b, off + lo, none⟩) hb (by simp)).trans c1
        have C := IC.out wi lo hlp2 hF
        have hcap2 : N ≤ cap := by
          rcases hcap.out with ⟨h, _, _⟩ | ⟨b', off', _, _, h⟩
          · have := hN.out; omega
          · have := hN.out; omega
        have hmu := hget.out lo hlp2
        have hne0 : (wds ps)[lo]? = some ps[lo].2 := by rw [List.getElem?_eq_getElem (by have := hln.out; omega), hmu]
        obtain ⟨pv, hpv⟩ : ∃ x, ps[lo].1 = x := ⟨_, rfl⟩
        rw [hpv] at c1 C
        by_cases heq : ps[lo].2 = word
        · as_aux_lemma =>
          rw [decide_eq_true heq] at C
          rw [if_pos (by rw [hne0, heq])] at hins
          replace hlo := Lib.hid hlo; replace hhi := Lib.hid hhi; replace hF := Lib.hid hF; replace C := Lib.hid C; replace hmu := Lib.hid hmu; replace hpv := Lib.hid hpv; replace hb := Lib.hid hb; replace hL := Lib.hid hL; replace hins := Lib.hid hins; replace hne0 := Lib.hid hne0; replace heq := Lib.hid heq; replace hcap2 := Lib.hid hcap2
          go_wp2_with fail
          refine C.out.mono ?_
          rintro e w2 ⟨rfl, f2⟩
          have GF := hF.out.trans f2
          have GW := hS.out.fr GF
          rw [hN.out] at GW
          replace f2 := Lib.hid f2; replace GF := Lib.hid GF; replace GW := Lib.hid GW
          go_wp2_with fail
          go_ret
          exact ⟨_, _, rfl, hins.out.symm, GW.out, GF.out⟩
        · rw [decide_eq_false heq] at C
          have hne : (wds ps)[lo]? ≠ some word := by rw [hne0]; intro h; exact heq (by simpa using h)
          have hc1 : lo < cap := by omega
          have hc2 : ¬ cap = lo := by omega
          have hc3 : ¬ cap = 0 := by omega
          have ST1 := fun (W2 : World) (v2 : Value) (f : Fr [] w W2) => put_st1 (v2 := v2) ((ps.map (·.1)).drop lo) (some ⟨b, off + lo, none⟩) (cap - lo) (hsw.out.drop lo) f (fun u hu => h1c.out u (List.mem_of_mem_drop hu)) (by rw [List.length_drop, hlm.out]; omega)
          have ST2 := fun (W4 : World) (v2 v4 : Value) (b4 : Option Nat) (f : Fr [] w W4) (hr : Row 1 W4 v4 (v2 :: (ps.map (·.1)).drop lo).length (v2 :: (ps.map (·.1)).drop lo) b4) (h2 : v2.oneCell' = true) => put_st2 (w := w) (W4 := W4) (v4 := v4) ((ps.map (·.1)).take lo) (v2 :: (ps.map (·.1)).drop lo) (some ⟨b, off, none⟩) cap (hsw.out.take lo) f b4 hr (fun u hu => h1c.out u (List.mem_of_mem_take hu)) (fun u hu => by
            rcases List.mem_cons.mp hu with rfl | hu
            · exact h2
            · exact h1c.out u (List.mem_of_mem_drop hu)) (by rw [List.length_take, hlm.out]; omega) (by rw [List.length_cons, List.length_drop, hlm.out]; omega)
          have el1 : ((ps.map (·.1)).drop lo).length = N - lo := by rw [List.length_drop, hlm.out]
          have el2 : ((ps.map (·.1)).take lo).length = lo := by rw [List.length_take, hlm.out] <;> omega
          replace hlo := Lib.hid hlo; replace hhi := Lib.hid hhi; replace hF := Lib.hid hF; replace C := Lib.hid C; replace hmu := Lib.hid hmu; replace hpv := Lib.hid hpv; replace hb := Lib.hid hb; replace hL := Lib.hid hL; replace hins := Lib.hid hins; replace hne0 := Lib.hid hne0; replace heq := Lib.hid heq; replace hcap2 := Lib.hid hcap2; replace hne := Lib.hid hne; replace ST1 := Lib.hid ST1; replace ST2 := Lib.hid ST2; replace el1 := Lib.hid el1; replace el2 := Lib.hid el2
          go_wp2_with fail
          refine C.out.mono ?_
          rintro e w2 ⟨rfl, f2⟩
          have GF := hF.out.trans f2
          replace f2 := Lib.hid f2; replace GF := Lib.hid GF
          clear hltI hlNI hlt
          go_upto_region 9 with fail
          go_region_held3 (fun w' => True)
            (first | trivial | exact True.intro)
            ((first
              | (obtain ⟨v5, w5, b5, happ, hr5, hb5, f5⟩ := ST1.out w4 (.slice o4 word.length c4) F4.out
                 rw [el1.out] at happ
                 replace hr5 := Lib.hid hr5; replace hb5 := Lib.hid hb5; replace f5 := Lib.hid f5
                 refine step_append_run rfl _ _ _ rfl (v := .slice (some ⟨w4.heap.size, 0, none⟩) 1 1) rfl (xv := .slice (some ⟨b, off + lo, none⟩) (N - lo) (cap - lo)) rfl happ ?_
                 clear happ)
              | (go_at_call 84
                 refine (CC.out _ (by first | exact GF.out.drew | exact GF.out)).mono ?_
                 rintro e w4 ⟨v4, ⟨b4, rfl, hr4, hb4⟩, f4⟩
                 obtain ⟨o4, c4, rfl⟩ := hr4.len
                 have F4 := Lib.hid (GF.out.trans (((Fr.refl [] w2).drew).trans f4))
                 replace hr4 := Lib.hid hr4; replace hb4 := Lib.hid hb4; replace f4 := Lib.hid f4)))
          all_goals
            obtain ⟨v6, w6, v7, w7, b7, happ6, happ7, hr7, f7⟩ := ST2.out w5 (.slice o4 word.length c4) v5 b5 (F4.out.trans f5.out) hr5.out (hr4.out.nin.one1)
            rw [el2.out] at happ6
            have GO := Lib.hid (FIN.out lo w7 (.slice o4 word.length c4) v7 b7 hL.out hne.out (hr4.out.nin.fr (f5.out.trans f7)) ((F4.out.trans f5.out).trans f7) hr7)
            replace happ6 := Lib.hid happ6; replace happ7 := Lib.hid happ7
            clear hr7 f7 ST1 ST2 FIN
            go_wp2_with (first | (at_builtin; refine wpList_append_run _ rfl _ _ _ rfl rfl rfl happ6.out ?_) | (at_builtin; refine wpList_append_run _ rfl _ _ _ rfl rfl rfl happ7.out ?_))
            go_ret
            exact GO.out
      · obtain rfl : lo = N := by omega
        have hne : (wds ps)[lo]? ≠ some word := by rw [List.getElem?_eq_none (by have := hln.out; have := hN.out; omega)]; simp
        rcases hcap.out with ⟨h0, rfl, rfl⟩ | ⟨b, off, rfl, h0, hc⟩
        · obtain rfl : lo = 0 := by have := hN.out; omega
          have ST1 := fun (W2 : World) (v2 : Value) (f : Fr [] w W2) => put_st1 (v2 := v2) ((ps.map (·.1)).drop 0) (none) (0) (fun j hj => by rw [List.length_drop, hlm.out] at hj; omega) f (fun u hu => h1c.out u (List.mem_of_mem_drop hu)) (by rw [List.length_drop, hlm.out]; omega)
          have ST2 := fun (W4 : World) (v2 v4 : Value) (b4 : Option Nat) (f : Fr [] w W4) (hr : Row 1 W4 v4 (v2 :: (ps.map (·.1)).drop 0).length (v2 :: (ps.map (·.1)).drop 0) b4) (h2 : v2.oneCell' = true) => put_st2 (w := w) (W4 := W4) (v4 := v4) ((ps.map (·.1)).take 0) (v2 :: (ps.map (·.1)).drop 0) (none) (0) (hsw.out.take 0) f b4 hr (fun u hu => h1c.out u (List.mem_of_mem_take hu)) (fun u hu => by
            rcases List.mem_cons.mp hu with rfl | hu
            · exact h2
            · exact h1c.out u (List.mem_of_mem_drop hu)) (by rw [List.length_take, hlm.out]; omega) (by rw [List.length_cons, List.length_drop, hlm.out]; omega)
          have el1 : ((ps.map (·.1)).drop 0).length = 0 := by rw [List.length_drop, hlm.out] <;> omega
          have el2 : ((ps.map (·.1)).take 0).length = 0 := by rw [List.length_take, hlm.out] <;> omega
          have f2 : Fr [] wi wi := Fr.refl _ _
          have GF := hF.trans f2
          obtain ⟨w2, rfl⟩ : ∃ x : World, x = wi := ⟨_, rfl⟩
          replace hlo := Lib.hid hlo; replace hhi := Lib.hid hhi; replace hF := Lib.hid hF; replace hL := Lib.hid hL; replace hins := Lib.hid hins; replace hne := Lib.hid hne; replace ST1 := Lib.hid ST1; replace ST2 := Lib.hid ST2; replace el1 := Lib.hid el1; replace el2 := Lib.hid el2; replace GF := Lib.hid GF; replace f2 := Lib.hid f2
          clear hltI
          go_upto_region 9 with fail
          go_region_held3 (fun w' => True)
            (first | trivial | exact True.intro)
            ((first
              | (obtain ⟨v5, w5, b5, happ, hr5, hb5, f5⟩ := ST1.out w4 (.slice o4 word.length c4) F4.out
                 rw [el1.out] at happ
                 replace hr5 := Lib.hid hr5; replace hb5 := Lib.hid hb5; replace f5 := Lib.hid f5
                 refine step_append_run rfl _ _ _ rfl (v := .slice (some ⟨w4.heap.size, 0, none⟩) 1 1) rfl (xv := .slice none (0) (0)) rfl happ ?_
                 clear happ)
              | (go_at_call 84
                 refine (CC.out _ (by first | exact GF.out.drew | exact GF.out)).mono ?_
                 rintro e w4 ⟨v4, ⟨b4, rfl, hr4, hb4⟩, f4⟩
                 obtain ⟨o4, c4, rfl⟩ := hr4.len
                 have F4 := Lib.hid (GF.out.trans (((Fr.refl [] w2).drew).trans f4))
                 replace hr4 := Lib.hid hr4; replace hb4 := Lib.hid hb4; replace f4 := Lib.hid f4)))
          all_goals
            obtain ⟨v6, w6, v7, w7, b7, happ6, happ7, hr7, f7⟩ := ST2.out w5 (.slice o4 word.length c4) v5 b5 (F4.out.trans f5.out) hr5.out (hr4.out.nin.one1)
            rw [el2.out] at happ6
            have GO := Lib.hid (FIN.out 0 w7 (.slice o4 word.length c4) v7 b7 hL.out hne.out (hr4.out.nin.fr (f5.out.trans f7)) ((F4.out.trans f5.out).trans f7) hr7)
            replace happ6 := Lib.hid happ6; replace happ7 := Lib.hid happ7
            clear hr7 f7 ST1 ST2 FIN
            go_wp2_with (first | (at_builtin; refine wpList_append_run _ rfl _ _ _ rfl rfl rfl happ6.out ?_) | (at_builtin; refine wpList_append_run _ rfl _ _ _ rfl rfl rfl happ7.out ?_))
            go_ret
            exact GO.out
        · have hc0 : lo ≤ cap := by have := hN.out; omega
          have hlo0 : 0 < lo := by have := hN.out; omega
          have hc3 : ¬ cap = 0 := by omega
          by_cases hcl : cap = lo
          · obtain ⟨cq, rfl⟩ : ∃ x, x = cap := ⟨_, rfl⟩
            subst hcl
            have ST1 := fun (W2 : World) (v2 : Value) (f : Fr [] w W2) => put_st1 (v2 := v2) ((ps.map (·.1)).drop cq) (some ⟨b, off, none⟩) (0) (fun j hj => by rw [List.length_drop, hlm.out] at hj; omega) f (fun u hu => h1c.out u (List.mem_of_mem_drop hu)) (by rw [List.length_drop, hlm.out]; omega)
            have ST2 := fun (W4 : World) (v2 v4 : Value) (b4 : Option Nat) (f : Fr [] w W4) (hr : Row 1 W4 v4 (v2 :: (ps.map (·.1)).drop cq).length (v2 :: (ps.map (·.1)).drop cq) b4) (h2 : v2.oneCell' = true) => put_st2 (w := w) (W4 := W4) (v4 := v4) ((ps.map (·.1)).take cq) (v2 :: (ps.map (·.1)).drop cq) (some ⟨b, off, none⟩) (cq) (hsw.out.take cq) f b4 hr (fun u hu => h1c.out u (List.mem_of_mem_take hu)) (fun u hu => by
              rcases List.mem_cons.mp hu with rfl | hu
              · exact h2
              · exact h1c.out u (List.mem_of_mem_drop hu)) (by rw [List.length_take, hlm.out]; omega) (by rw [List.length_cons, List.length_drop, hlm.out]; omega)
            have el1 : ((ps.map (·.1)).drop cq).length = 0 := by rw [List.length_drop, hlm.out] <;> omega
            have el2 : ((ps.map (·.1)).take cq).length = cq := by rw [List.length_take, hlm.out] <;> omega
            have f2 : Fr [] wi wi := Fr.refl _ _
            have GF := hF.trans f2
            obtain ⟨w2, rfl⟩ : ∃ x : World, x = wi := ⟨_, rfl⟩
            replace hlo := Lib.hid hlo; replace hhi := Lib.hid hhi; replace hF := Lib.hid hF; replace hL := Lib.hid hL; replace hins := Lib.hid hins; replace hne := Lib.hid hne; replace ST1 := Lib.hid ST1; replace ST2 := Lib.hid ST2; replace el1 := Lib.hid el1; replace el2 := Lib.hid el2; replace GF := Lib.hid GF; replace f2 := Lib.hid f2
            go_upto_region 9 with fail
            go_region_held3 (fun w' => True)
              (first | trivial | exact True.intro)
              ((first
                | (obtain ⟨v5, w5, b5, happ, hr5, hb5, f5⟩ := ST1.out w4 (.slice o4 word.length c4) F4.out
                   rw [el1.out] at happ
                   replace hr5 := Lib.hid hr5; replace hb5 := Lib.hid hb5; replace f5 := Lib.hid f5
                   refine step_append_run rfl _ _ _ rfl (v := .slice (some ⟨w4.heap.size, 0, none⟩) 1 1) rfl (xv := .slice (some ⟨b, off, none⟩) (0) (0)) rfl happ ?_
                   clear happ)
                | (go_at_call 84
                   refine (CC.out _ (by first | exact GF.out.drew | exact GF.out)).mono ?_
                   rintro e w4 ⟨v4, ⟨b4, rfl, hr4, hb4⟩, f4⟩
                   obtain ⟨o4, c4, rfl⟩ := hr4.len
                   have F4 := Lib.hid (GF.out.trans (((Fr.refl [] w2).drew).trans f4))
                   replace hr4 := Lib.hid hr4; replace hb4 := Lib.hid hb4; replace f4 := Lib.hid f4)))
            all_goals
              obtain ⟨v6, w6, v7, w7, b7, happ6, happ7, hr7, f7⟩ := ST2.out w5 (.slice o4 word.length c4) v5 b5 (F4.out.trans f5.out) hr5.out (hr4.out.nin.one1)
              rw [el2.out] at happ6
              have GO := Lib.hid (FIN.out cq w7 (.slice o4 word.length c4) v7 b7 hL.out hne.out (hr4.out.nin.fr (f5.out.trans f7)) ((F4.out.trans f5.out).trans f7) hr7)
              replace happ6 := Lib.hid happ6; replace happ7 := Lib.hid happ7
              clear hr7 f7 ST1 ST2 FIN
              go_wp2_with (first | (at_builtin; refine wpList_append_run _ rfl _ _ _ rfl rfl rfl happ6.out ?_) | (at_builtin; refine wpList_append_run _ rfl _ _ _ rfl rfl rfl happ7.out ?_))
              go_ret
              exact GO.out
          · have hc1 : lo < cap := by omega
            have ST1 := fun (W2 : World) (v2 : Value) (f : Fr [] w W2) => put_st1 (v2 := v2) ((ps.map (·.1)).drop lo) (some ⟨b, off + lo, none⟩) (cap - lo) (fun j hj => by rw [List.length_drop, hlm.out] at hj; omega) f (fun u hu => h1c.out u (List.mem_of_mem_drop hu)) (by rw [List.length_drop, hlm.out]; omega)
            have ST2 := fun (W4 : World) (v2 v4 : Value) (b4 : Option Nat) (f : Fr [] w W4) (hr : Row 1 W4 v4 (v2 :: (ps.map (·.1)).drop lo).length (v2 :: (ps.map (·.1)).drop lo) b4) (h2 : v2.oneCell' = true) => put_st2 (w := w) (W4 := W4) (v4 := v4) ((ps.map (·.1)).take lo) (v2 :: (ps.map (·.1)).drop lo) (some ⟨b, off, none⟩) (cap) (hsw.out.take lo) f b4 hr (fun u hu => h1c.out u (List.mem_of_mem_take hu)) (fun u hu => by
              rcases List.mem_cons.mp hu with rfl | hu
              · exact h2
              · exact h1c.out u (List.mem_of_mem_drop hu)) (by rw [List.length_take, hlm.out]; omega) (by rw [List.length_cons, List.length_drop, hlm.out]; omega)
            have el1 : ((ps.map (·.1)).drop lo).length = 0 := by rw [List.length_drop, hlm.out] <;> omega
            have el2 : ((ps.map (·.1)).take lo).length = lo := by rw [List.length_take, hlm.out] <;> omega
            have f2 : Fr [] wi wi := Fr.refl _ _
            have GF := hF.trans f2
            obtain ⟨w2, rfl⟩ : ∃ x : World, x = wi := ⟨_, rfl⟩
            replace hlo := Lib.hid hlo; replace hhi := Lib.hid hhi; replace hF := Lib.hid hF; replace hL := Lib.hid hL; replace hins := Lib.hid hins; replace hne := Lib.hid hne; replace ST1 := Lib.hid ST1; replace ST2 := Lib.hid ST2; replace el1 := Lib.hid el1; replace el2 := Lib.hid el2; replace GF := Lib.hid GF; replace f2 := Lib.hid f2
            go_upto_region 9 with fail
            go_region_held3 (fun w' => True)
              (first | trivial | exact True.intro)
              ((first
                | (obtain ⟨v5, w5, b5, happ, hr5, hb5, f5⟩ := ST1.out w4 (.slice o4 word.length c4) F4.out
                   rw [el1.out] at happ
                   replace hr5 := Lib.hid hr5; replace hb5 := Lib.hid hb5; replace f5 := Lib.hid f5
                   refine step_append_run rfl _ _ _ rfl (v := .slice (some ⟨w4.heap.size, 0, none⟩) 1 1) rfl (xv := .slice (some ⟨b, off + lo, none⟩) (0) (cap - lo)) rfl happ ?_
                   clear happ)
                | (go_at_call 84
                   refine (CC.out _ (by first | exact GF.out.drew | exact GF.out)).mono ?_
                   rintro e w4 ⟨v4, ⟨b4, rfl, hr4, hb4⟩, f4⟩
                   obtain ⟨o4, c4, rfl⟩ := hr4.len
                   have F4 := Lib.hid (GF.out.trans (((Fr.refl [] w2).drew).trans f4))
                   replace hr4 := Lib.hid hr4; replace hb4 := Lib.hid hb4; replace f4 := Lib.hid f4)))
            all_goals
              obtain ⟨v6, w6, v7, w7, b7, happ6, happ7, hr7, f7⟩ := ST2.out w5 (.slice o4 word.length c4) v5 b5 (F4.out.trans f5.out) hr5.out (hr4.out.nin.one1)
              rw [el2.out] at happ6
              have GO := Lib.hid (FIN.out lo w7 (.slice o4 word.length c4) v7 b7 hL.out hne.out (hr4.out.nin.fr (f5.out.trans f7)) ((F4.out.trans f5.out).trans f7) hr7)
              replace happ6 := Lib.hid happ6; replace happ7 := Lib.hid happ7
              clear hr7 f7 ST1 ST2 FIN
              go_wp2_with (first | (at_builtin; refine wpList_append_run _ rfl _ _ _ rfl rfl rfl happ6.out ?_) | (at_builtin; refine wpList_append_run _ rfl _ _ _ rfl rfl rfl happ7.out ?_))
              go_ret
              exact GO.out
end Go.Proofs.Ytnggimkkjdipmaa
