import Derived.Test.YtjgmlnkbplgloaaR11
import Derived.Test.YtjgmlnkbplgloaaQ7
namespace Go.Proofs.Ytjgmlnkbplgloaa
open Go.RowKit
set_option linter.unusedVariables false
set_option linter.unusedSimpArgs false
set_option maxHeartbeats 8000000
set_option maxRecDepth 20000
/-! ### The reference's side does what the program's side does -/
structure Sim (q : RS) (s : SS) : Prop where
  first : q.first = s.first
  m : q.m = s.m
  a : q.a = s.a
  r : q.r = s.r
  opn : q.opn = s.major
  own : q.own = s.own
  other : q.other = s.theirs
  wt : q.wt = s.wt
  kt : q.kt = s.kt
  w : s.wt = true → q.wh = s.wh ∧ q.wn = s.wn
  k : s.kt = true → q.kh = s.kh ∧ q.kn = s.kn
theorem Sim.tid {r : RS} {s : SS} (h : Sim r s) : Sim r.tidied s.pruned :=
  ⟨h.first, h.m, h.a, h.r, h.opn, by show r.own.filter (betw r.a r.m) = keep (over s.a s.m) s.own; rw [keep_betw, h.own, h.a, h.m], by show r.other.filter (betw r.a r.m) = keep (over s.a s.m) s.theirs; rw [keep_betw, h.other, h.a, h.m], h.wt, h.kt, h.w, h.k⟩
theorem Sim.wins {r : RS} {s : SS} (h : Sim r s) (hw : s.wt = true) (e : Ev) : r.wins e = s.wins e := by
  obtain ⟨h1, h2⟩ := h.w hw
  unfold RS.wins SS.wins
  rw [h1, h2, h.first]
theorem Sim.anew {r : RS} {s : SS} (h : Sim r s) (how n : Int) (hk : r.kt = false) : Sim (r.reset how n).tidied (s.anew how n) := by
  have h1 : Sim { r.reset how n with kt := s.kt, kh := s.kh, kn := s.kn } { (s.reset how n) with wt := false } := ⟨h.first, rfl, by show (if how = 0 then min r.a n else n) = (if how = 0 then min s.a n else n); rw [h.a], by show (if how = 0 then min r.r n else n) = (if how = 0 then min s.r n else n); rw [h.r], rfl, h.own, h.other, rfl, rfl, (fun x => by cases x), fun _ => ⟨rfl, rfl⟩⟩
  have h2 := h1.tid
  exact ⟨h2.first, h2.m, h2.a, h2.r, h2.opn, h2.own, h2.other, rfl, hk, (fun x => by cases x), (fun x => by cases x)⟩
theorem rup_any (b : Nat) (r : RS) (s : SS) (bo bt : Option Nat) (e : Ev) (w : World) (h : RM w b r bo bt) (hs : Sim r s) (hv : SV s) (hI : SI s) (hk : kinds e.kind) (h2 : e.kind = 2 → 0 ≤ e.a ∧ e.a ≤ 999999) (h5 : e.kind = 5 → e.b = 0 ∨ e.b = 1 ∨ e.b = 2) :
    Calls Try.prog 29 #[.pointer (some ⟨b, 0, none⟩), e.val] w fun x w' => ∃ r', Sim r' (userS s e).1 ∧ RonR b bo bt w r' (userS s e).2.1 (userS s e).2.2 x w' := by
  have hn : r.own.length < 900000 ∧ r.other.length < 900000 := ⟨by rw [hs.own]; exact hI.own, by rw [hs.other]; exact hI.theirs⟩
  unfold userS
  by_cases c1 : s.wt = true
  · rw [if_pos c1]; exact (up_waits b r bo bt e w h (by rw [hs.wt]; exact c1)).mono fun x w' hx => ⟨r, hs, hx⟩
  have c1' : s.wt = false := by cases q : s.wt; rfl; exact absurd q c1
  have w0 : r.wt = false := hs.wt.trans c1'
  rw [if_neg c1]
  by_cases c7 : e.kind = 7
  · rw [if_pos c7]
    by_cases ck : s.kt = true
    · have k1 : r.kt = true := hs.kt.trans ck
      obtain ⟨kh, kn⟩ := hs.k ck
      have hrk : Sim { r with kt := false } { s with kt := false, kh := s.kh } := ⟨hs.first, hs.m, hs.a, hs.r, hs.opn, hs.own, hs.other, hs.wt, rfl, hs.w, (fun x => by cases x)⟩
      have SR : Sim (RS.reset { r with kt := false } r.kh e.a).tidied (s.anew s.kh e.a) := by
        have h9 := Sim.anew (s := { s with kt := false, kh := s.kh }) hrk r.kh e.a rfl
        rw [show s.anew s.kh e.a = SS.anew { s with kt := false, kh := s.kh } r.kh e.a from by rw [kh]; rfl]
        exact h9
      have L : [Ev.mk 1 7 e.a r.kh 0 ByteArray.empty] = [⟨1, 7, e.a, s.kh, 0, ByteArray.empty⟩] := by rw [kh]
      rw [if_pos ck]
      by_cases cx : s.kh = 2 ∨ e.a = s.kn
      · rw [if_pos cx]
        by_cases c2 : s.kh = 2
        · have := up_ok7a b r bo bt e w h c7 w0 k1 hn (by rw [kh]; exact c2)
          rw [L] at this
          exact this.mono fun x w' hx => ⟨_, SR, hx⟩
        · have := up_ok7b b r bo bt e w h c7 w0 k1 hn (by rw [kh]; exact c2) (by rw [kn]; exact cx.resolve_left c2)
          rw [L] at this
          exact this.mono fun x w' hx => ⟨_, SR, hx⟩
      · rw [if_neg cx]
        exact (up_far7 b r bo bt e w h c7 w0 k1 (by rw [kh]; exact fun q => cx (.inl q)) (by rw [kn]; exact fun q => cx (.inr q))).mono fun x w' hx => ⟨r, hs, hx⟩
    · have k0 : r.kt = false := by rw [hs.kt]; cases q : s.kt; rfl; exact absurd q ck
      rw [if_neg ck]
      exact (up_bad7 b r bo bt e w h c7 w0 k0).mono fun x w' hx => ⟨r, hs, hx⟩
  rw [if_neg c7]
  by_cases ck : s.kt = true
  · rw [if_pos ck]; exact (up_owes b r bo bt e w h w0 (hs.kt.trans ck) c7).mono fun x w' hx => ⟨r, hs, hx⟩
  have k0 : r.kt = false := by rw [hs.kt]; cases q : s.kt; rfl; exact absurd q ck
  rw [if_neg ck]
  by_cases c13 : e.kind = 1 ∨ e.kind = 3
  · rw [if_pos c13]
    by_cases cj : s.major ≠ 0
    · rw [if_pos cj]
      have P := fun mj w' hr => rpoint_busy b r bo bt mj w' hr (by rw [hs.opn]; exact cj)
      rcases c13 with c | c
      · exact (up_pt1 b r bo bt e w h c w0 k0 r [] 8 (P false)).mono fun x w' hx => ⟨r, hs, hx⟩
      · exact (up_pt3 b r bo bt e w h c w0 k0 r [] 8 (P true)).mono fun x w' hx => ⟨r, hs, hx⟩
    rw [if_neg cj]
    have j0 : r.opn = 0 := by rw [hs.opn]; exact Classical.byContradiction cj
    by_cases cm : 999999 ≤ s.m
    · rw [if_pos cm]
      have P := fun mj w' hr => rpoint_far b r bo bt mj w' hr j0 (by rw [hs.m]; have := hI.m0; omega)
      rcases c13 with c | c
      · exact (up_pt1 b r bo bt e w h c w0 k0 r [] 5 (P false)).mono fun x w' hx => ⟨r, hs, hx⟩
      · exact (up_pt3 b r bo bt e w h c w0 k0 r [] 5 (P true)).mono fun x w' hx => ⟨r, hs, hx⟩
    rw [if_neg cm]
    have m1 : 0 ≤ r.m ∧ r.m < 999999 := by rw [hs.m]; have := hI.m0; omega
    rcases c13 with c | c
    · have P := up_pt1 b r bo bt e w h c w0 k0 _ _ _ (fun w' hr => rpoint_min b r bo bt w' hr j0 m1 hn.1)
      rw [c]
      rw [hs.m] at P
      refine P.mono fun x w' hx => ⟨_, ?_, hx⟩
      exact ⟨hs.first, rfl, hs.a, hs.r, hs.opn, by show r.own ++ [s.m] = s.own ++ [s.m]; rw [hs.own], hs.other, hs.wt, hs.kt, hs.w, hs.k⟩
    · have P := up_pt3 b r bo bt e w h c w0 k0 _ _ _ (fun w' hr => rpoint_maj b r bo bt w' hr j0 m1)
      rw [c]
      rw [hs.m] at P
      refine P.mono fun x w' hx => ⟨_, ?_, hx⟩
      exact ⟨hs.first, rfl, hs.a, hs.r, rfl, hs.own, hs.other, hs.wt, hs.kt, hs.w, hs.k⟩
  rw [if_neg c13]
  by_cases c2 : e.kind = 2
  · rw [if_pos c2]
    by_cases cm : e.a ∈ s.theirs
    · rw [if_pos cm]
      have := hv.theirs _ cm
      have P := up_ok2 b r bo bt e w h c2 w0 k0 hn (h2 c2) (by rw [hs.a]; omega) (by rw [hs.m]; omega) (by rw [hs.other]; exact cm)
      exact P.mono fun x w' hx => ⟨_, Sim.tid (r := { r with a := e.a + 1 }) (s := { s with a := e.a + 1 }) ⟨hs.first, hs.m, rfl, hs.r, hs.opn, hs.own, hs.other, hs.wt, hs.kt, hs.w, hs.k⟩, hx⟩
    · rw [if_neg cm]
      by_cases q1 : e.a < r.a
      · exact (up_bad2a b r bo bt e w h c2 w0 k0 hn q1).mono fun x w' hx => ⟨r, hs, hx⟩
      by_cases q2 : r.m ≤ e.a
      · exact (up_bad2b b r bo bt e w h c2 w0 k0 hn q1 q2).mono fun x w' hx => ⟨r, hs, hx⟩
      exact (up_bad2c b r bo bt e w h c2 w0 k0 hn q1 q2 (by rw [hs.other]; exact cm)).mono fun x w' hx => ⟨r, hs, hx⟩
  rw [if_neg c2]
  by_cases c4 : e.kind = 4
  · rw [if_pos c4]
    by_cases cj : s.major = 2
    · rw [if_pos cj]
      have P := up_ok4 b r bo bt e w h c4 w0 k0 hn (by rw [hs.m]; exact hI.m0) (by rw [hs.opn]; exact cj)
      rw [show [Ev.mk 1 4 (r.m - 1) 0 0 ByteArray.empty] = [⟨1, 4, s.m - 1, 0, 0, ByteArray.empty⟩] by rw [hs.m]] at P
      exact P.mono fun x w' hx => ⟨_, Sim.tid (r := { r with a := r.m, r := r.m, opn := 0 }) (s := { s with a := s.m, r := s.m, major := 0 }) ⟨hs.first, hs.m, hs.m, hs.m, rfl, hs.own, hs.other, hs.wt, hs.kt, hs.w, hs.k⟩, hx⟩
    · rw [if_neg cj]
      exact (up_bad4 b r bo bt e w h c4 w0 k0 (by rw [hs.opn]; exact cj)).mono fun x w' hx => ⟨r, hs, hx⟩
  rw [if_neg c4]
  have c5 : e.kind = 5 := by unfold kinds at hk; omega
  unfold backS
  by_cases cb : e.b = 0 ∧ (e.a < s.r ∨ s.m < e.a)
  · rw [if_pos cb]
    exact (up_bad5 b r bo bt e w h c5 w0 k0 cb.1 (by rw [hs.r, hs.m]; exact cb.2)).mono fun x w' hx => ⟨r, hs, hx⟩
  rw [if_neg cb]
  have mk : ∀ how n, Sim { r with wt := true, wh := how, wn := n } { s with wt := true, wh := how, wn := n } := fun how n => ⟨hs.first, hs.m, hs.a, hs.r, hs.opn, hs.own, hs.other, rfl, hs.kt, fun _ => ⟨rfl, rfl⟩, hs.k⟩
  rcases h5 c5 with q | q | q
  · have P := up_ok5_0 b r bo bt e w h c5 w0 k0 q (by rw [hs.r, hs.m]; exact fun hh => cb ⟨q, hh⟩)
    rw [q, if_neg (by omega)]
    exact P.mono fun x w' hx => ⟨_, mk _ _, hx⟩
  · have P := up_ok5_1 b r bo bt e w h c5 w0 k0 q
    rw [q, if_pos rfl]
    rw [hs.m] at P
    refine P.mono fun x w' hx => ⟨_, ?_, hx⟩
    have := mk 1 s.m
    exact ⟨this.first, rfl, this.a, this.r, this.opn, this.own, this.other, this.wt, this.kt, this.w, this.k⟩
  · have P := up_ok5_2 b r bo bt e w h c5 w0 k0 q
    rw [q, if_neg (by omega)]
    exact P.mono fun x w' hx => ⟨_, mk _ _, hx⟩
theorem rdown_any (b : Nat) (r : RS) (s : SS) (bo bt : Option Nat) (e : Ev) (w : World) (h : RM w b r bo bt) (hs : Sim r s) (hv : SV s) (hI : SI s) (hk : kinds e.kind) (ha : 0 ≤ e.a ∧ e.a ≤ 999999) (hb : e.kind = 5 ∨ e.kind = 7 → e.b = 0 ∨ e.b = 1 ∨ e.b = 2) :
    Calls Try.prog 30 #[.pointer (some ⟨b, 0, none⟩), e.val] w fun x w' => ∃ r', Sim r' (belowS s e).1 ∧ RbeR b bo bt w r' (belowS s e).2 x w' := by
  have hn : r.own.length < 900000 ∧ r.other.length < 900000 := ⟨by rw [hs.own]; exact hI.own, by rw [hs.other]; exact hI.theirs⟩
  unfold belowS
  by_cases c1 : s.wt = true ∧ e.kind < 5
  · rw [if_pos c1]; exact (dn_waits b r bo bt e w h (by rw [hs.wt]; exact c1.1) c1.2).mono fun x w' hx => ⟨r, hs, hx⟩
  rw [if_neg c1]
  have w0 : e.kind < 5 → r.wt = false := fun hk5 => by
    rw [hs.wt]
    cases q : s.wt
    · rfl
    · exact absurd ⟨q, hk5⟩ c1
  by_cases c13 : e.kind = 1 ∨ e.kind = 3
  · rw [if_pos c13]
    have w00 := w0 (by omega)
    by_cases cx : e.a ≠ s.m ∨ s.major ≠ 0 ∨ 999999 ≤ s.m
    · rw [if_pos cx]
      by_cases q1 : e.a = s.m
      · by_cases q2 : s.major = 0
        · have q3 : r.m = 999999 := by rw [hs.m]; have := hI.m0; omega
          rcases c13 with c | c
          · exact (dn_bad1c b r bo bt e w h c w00 (by rw [hs.m]; exact q1) (by rw [hs.opn]; exact q2) q3).mono fun x w' hx => ⟨r, hs, hx⟩
          · exact (dn_bad3c b r bo bt e w h c w00 (by rw [hs.m]; exact q1) (by rw [hs.opn]; exact q2) q3).mono fun x w' hx => ⟨r, hs, hx⟩
        · rcases c13 with c | c
          · exact (dn_bad1b b r bo bt e w h c w00 (by rw [hs.m]; exact q1) (by rw [hs.opn]; exact q2)).mono fun x w' hx => ⟨r, hs, hx⟩
          · exact (dn_bad3b b r bo bt e w h c w00 (by rw [hs.m]; exact q1) (by rw [hs.opn]; exact q2)).mono fun x w' hx => ⟨r, hs, hx⟩
      · rcases c13 with c | c
        · exact (dn_bad1a b r bo bt e w h c w00 (by rw [hs.m]; exact q1)).mono fun x w' hx => ⟨r, hs, hx⟩
        · exact (dn_bad3a b r bo bt e w h c w00 (by rw [hs.m]; exact q1)).mono fun x w' hx => ⟨r, hs, hx⟩
    · rw [if_neg cx]
      have q1 : e.a = s.m := Classical.byContradiction fun q => cx (.inl q)
      have q2 : s.major = 0 := Classical.byContradiction fun q => cx (.inr (.inl q))
      have q3 : ¬ 999999 ≤ s.m := fun q => cx (.inr (.inr q))
      have m1 : 0 ≤ r.m ∧ r.m < 999999 := by rw [hs.m]; have := hI.m0; omega
      rcases c13 with c | c
      · have P := dn_ok1 b r bo bt e w h c w00 (by rw [hs.m]; exact q1) (by rw [hs.opn]; exact q2) m1 hn.2
        rw [c]
        rw [hs.m] at P
        refine P.mono fun x w' hx => ⟨_, ?_, hx⟩
        exact ⟨hs.first, rfl, hs.a, hs.r, hs.opn, hs.own, by show r.other ++ [s.m] = s.theirs ++ [s.m]; rw [hs.other], hs.wt, hs.kt, hs.w, hs.k⟩
      · have P := dn_ok3 b r bo bt e w h c w00 (by rw [hs.m]; exact q1) (by rw [hs.opn]; exact q2) m1
        rw [c]
        rw [hs.m] at P
        refine P.mono fun x w' hx => ⟨_, ?_, hx⟩
        exact ⟨hs.first, rfl, hs.a, hs.r, rfl, hs.own, hs.other, hs.wt, hs.kt, hs.w, hs.k⟩
  rw [if_neg c13]
  by_cases c2 : e.kind = 2
  · rw [if_pos c2]
    have w00 := w0 (by omega)
    by_cases cm : e.a ∈ s.own
    · rw [if_pos cm]
      have := hv.own _ cm
      have P := dn_ok2 b r bo bt e w h c2 w00 hn ha (by rw [hs.a]; omega) (by rw [hs.m]; omega) (by rw [hs.own]; exact cm)
      exact P.mono fun x w' hx => ⟨_, Sim.tid (r := { r with a := e.a + 1 }) (s := { s with a := e.a + 1 }) ⟨hs.first, hs.m, rfl, hs.r, hs.opn, hs.own, hs.other, hs.wt, hs.kt, hs.w, hs.k⟩, hx⟩
    · rw [if_neg cm]
      by_cases q1 : e.a < r.a
      · exact (dn_bad2a b r bo bt e w h c2 w00 hn q1).mono fun x w' hx => ⟨r, hs, hx⟩
      by_cases q2 : r.m ≤ e.a
      · exact (dn_bad2b b r bo bt e w h c2 w00 hn q1 q2).mono fun x w' hx => ⟨r, hs, hx⟩
      exact (dn_bad2c b r bo bt e w h c2 w00 hn q1 q2 (by rw [hs.own]; exact cm)).mono fun x w' hx => ⟨r, hs, hx⟩
  rw [if_neg c2]
  by_cases c4 : e.kind = 4
  · rw [if_pos c4]
    have w00 := w0 (by omega)
    by_cases cj : s.major = 1
    · rw [if_pos cj]
      have P := dn_ok4 b r bo bt e w h c4 w00 hn (by rw [hs.opn]; exact cj)
      exact P.mono fun x w' hx => ⟨_, Sim.tid (r := { r with a := r.m, r := r.m, opn := 0 }) (s := { s with a := s.m, r := s.m, major := 0 }) ⟨hs.first, hs.m, hs.m, hs.m, rfl, hs.own, hs.other, hs.wt, hs.kt, hs.w, hs.k⟩, hx⟩
    · rw [if_neg cj]
      exact (dn_bad4 b r bo bt e w h c4 w00 (by rw [hs.opn]; exact cj)).mono fun x w' hx => ⟨r, hs, hx⟩
  rw [if_neg c4]
  by_cases c5 : e.kind = 5
  · rw [if_pos c5]
    have hb5 := hb (.inl c5)
    unfold reqS
    by_cases cx : e.b = 0 ∧ (e.a < s.r ∨ s.m < e.a)
    · rw [if_pos cx]
      exact (dn_bad5 b r bo bt e w h c5 cx.1 (by rw [hs.r, hs.m]; exact cx.2)).mono fun x w' hx => ⟨r, hs, hx⟩
    rw [if_neg cx]
    have hx0 : e.b = 0 → ¬ (e.a < r.r ∨ r.m < e.a) := fun q hh => cx ⟨q, by rw [hs.r, hs.m] at hh; exact hh⟩
    by_cases cw : s.wt = true ∧ s.wins e = true
    · rw [if_pos cw]
      have g1 : r.wt = true := hs.wt.trans cw.1
      have g2 : r.wh = 0 ∨ r.wh = 1 ∨ r.wh = 2 := by rw [(hs.w cw.1).1]; exact hI.wh
      have g3 : r.wins e = true := (hs.wins cw.1 e).trans cw.2
      rcases hb5 with q | q | q
      · exact (dn_wins5_0 b r bo bt e w h c5 q g1 g2 g3 (hx0 q)).mono fun x w' hx => ⟨r, hs, hx⟩
      · exact (dn_wins5_1 b r bo bt e w h c5 q g1 g2 g3).mono fun x w' hx => ⟨r, hs, hx⟩
      · exact (dn_wins5_2 b r bo bt e w h c5 q g1 g2 g3).mono fun x w' hx => ⟨r, hs, hx⟩
    rw [if_neg cw]
    have mk : ∀ how n, Sim { r with wt := false, kt := true, kh := how, kn := n } { s with wt := false, wh := 0, wn := 0, kt := true, kh := how, kn := n } := fun how n => ⟨hs.first, hs.m, hs.a, hs.r, hs.opn, hs.own, hs.other, rfl, rfl, (fun x => by cases x), fun _ => ⟨rfl, rfl⟩⟩
    cases hw : s.wt
    · have g1 : r.wt = false := hs.wt.trans hw
      rcases hb5 with q | q | q
      · have P := dn_acc5_0f b r bo bt e w h c5 q g1 (hx0 q)
        rw [q, if_neg (by omega)]
        exact P.mono fun x w' hx => ⟨_, mk _ _, hx⟩
      · have P := dn_acc5_1f b r bo bt e w h c5 q g1
        rw [q, if_pos rfl]
        rw [hs.m] at P
        refine P.mono fun x w' hx => ⟨_, ?_, hx⟩
        have := mk 1 (max e.a s.m)
        exact ⟨this.first, rfl, this.a, this.r, this.opn, this.own, this.other, this.wt, this.kt, this.w, this.k⟩
      · have P := dn_acc5_2f b r bo bt e w h c5 q g1
        rw [q, if_neg (by omega)]
        exact P.mono fun x w' hx => ⟨_, mk _ _, hx⟩
    · have g1 : r.wt = true := hs.wt.trans hw
      have g2 : r.wh = 0 ∨ r.wh = 1 ∨ r.wh = 2 := by rw [(hs.w hw).1]; exact hI.wh
      have g3 : r.wins e = false := by
        rw [hs.wins hw e]
        cases z : s.wins e
        · rfl
        · exact absurd ⟨hw, z⟩ cw
      rcases hb5 with q | q | q
      · have P := dn_acc5_0w b r bo bt e w h c5 q g1 g2 g3 (hx0 q)
        rw [q, if_neg (by omega)]
        exact P.mono fun x w' hx => ⟨_, mk _ _, hx⟩
      · have P := dn_acc5_1w b r bo bt e w h c5 q g1 g2 g3
        rw [q, if_pos rfl]
        rw [hs.m] at P
        refine P.mono fun x w' hx => ⟨_, ?_, hx⟩
        have := mk 1 (max e.a s.m)
        exact ⟨this.first, rfl, this.a, this.r, this.opn, this.own, this.other, this.wt, this.kt, this.w, this.k⟩
      · have P := dn_acc5_2w b r bo bt e w h c5 q g1 g2 g3
        rw [q, if_neg (by omega)]
        exact P.mono fun x w' hx => ⟨_, mk _ _, hx⟩
  rw [if_neg c5]
  have c7 : e.kind = 7 := by unfold kinds at hk; omega
  cases hw : s.wt
  · rw [if_neg (by simp)]
    exact (dn_bad7 b r bo bt e w h c7 (hs.wt.trans hw)).mono fun x w' hx => ⟨r, hs, hx⟩
  · rw [if_pos rfl]
    have k0 : r.kt = false := by
      rw [hs.kt]
      cases z : s.kt
      · rfl
      · exact absurd ⟨hw, z⟩ hv.one
    exact (dn_ok7 b r bo bt e w h c7 (hs.wt.trans hw) hn).mono fun x w' hx => ⟨_, hs.anew e.b e.a k0, hx⟩
end Go.Proofs.Ytjgmlnkbplgloaa
