import Derived.Test.YtjgmlnkbplgloaaS1
import Derived.Lib.SliceRun
import Derived.Laws.IdiomCopy
import Derived.Deep.Cut
namespace Go.Proofs.Ytjgmlnkbplgloaa
open Go.RowKit
set_option linter.unusedVariables false
set_option linter.unusedSimpArgs false
set_option maxHeartbeats 4000000
set_option maxRecDepth 20000
variable {X : List Nat}
/-! ### A side -/
structure SS where
  made : Bool
  first : Bool
  m : Int
  a : Int
  r : Int
  major : Int
  own : List Int
  theirs : List Int
  wt : Bool
  wh : Int
  wn : Int
  kt : Bool
  kh : Int
  kn : Int
def SS.cells (s : SS) (vo vt : Value) : List Value := [.bool s.made, .bool s.first, .int .i64 s.m, .int .i64 s.a, .int .i64 s.r, .int .i64 s.major, vo, vt, .bool s.wt, .int .i64 s.wh, .int .i64 s.wn, .bool s.kt, .int .i64 s.kh, .int .i64 s.kn]
abbrev TSide : TypeId := 59
def over (a m n : Int) : Bool := decide (n < a) || decide (m ≤ n)
theorem over_any (b bx : Nat) (s : SS) (vo vt : Value) (n : Int) (w : World) (hp : Pt w b TSide (s.cells vo vt)) (hx : Pt w bx 25 [.pointer (some ⟨b, 0, none⟩)]) :
    Calls Try.prog 60 #[.int .i64 n, .pointer (some ⟨bx, 0, none⟩)] w fun e w' => e = .returned (.bool (over s.a s.m n)) ∧ w = w' := by
  have hc := hp.cell
  have hd := hx.cell
  simp only [SS.cells] at hc
  clear hp hx
  unfold over
  by_cases h1 : n < s.a
  · have hd1 : decide (n < s.a) = true := decide_eq_true h1
    go_enter Try.func60, Try.ntmps60
    go_wp2_with fail
    go_ret
    exact ⟨by rw [hd1]; rfl, rfl⟩
  · have hd1 : decide (n < s.a) = false := decide_eq_false h1
    go_enter Try.func60, Try.ntmps60
    go_wp2_with fail
    go_ret
    exact ⟨rfl, rfl⟩
/-- What a function value of prune gives, whatever else is written. -/
def OverAt (bx : Nat) (p : Int → Bool) (w : World) : Prop := ∀ n : Int, Calls Try.prog 60 #[.int .i64 n, .pointer (some ⟨bx, 0, none⟩)] w fun e w' => e = .returned (.bool (p n)) ∧ w = w'
theorem indexF_any (v : Value) (l : List Int) (p : Int → Bool) (w : World) (bx : Nat) (hD : IR0 w v l) (hn : l.length < 1000000) (hp : OverAt bx p w) :
    Calls Try.prog 62 #[v, .func (.func 60) #[] #[.pointer (some ⟨bx, 0, none⟩)]] w fun e w' => ((e = .returned (.int .i64 (-1)) ∧ ∀ y ∈ l, p y = false) ∨ ∃ (k : Nat) (h : k < l.length), e = .returned (.int .i64 k) ∧ p l[k] = true ∧ ∀ y ∈ l.take k, p y = false) ∧ w = w' := by
  obtain ⟨o, cap, rfl, _, hl⟩ := hD
  replace hl := Lib.hid hl; replace hp := Lib.hid hp
  go_enter Try.func62, Try.ntmps62
  go_wp2_with fail
  go_loop [8] (fun v => ∃ i : Nat, i ≤ l.length ∧ v = .int .i64 i ∧ ∀ y ∈ l.take i, p y = false) (fun v => (l.length - intOf v).toNat)
  case atStart => exact ⟨0, by omega, rfl, by simp⟩
  case round =>
    obtain ⟨i, hi, rfl, hni⟩ := hrel
    by_cases hlt : (i : Int) < l.length
    · have hil : i < l.length := by omega
      obtain ⟨b, off, rfl, hb, _, hc⟩ := hl.out i hil
      have hcall := Lib.hid (hp.out l[i])
      have hnn : p l[i] = false → ∀ y ∈ l.take (i + 1), p y = false := fun h y hy => by
        rw [List.take_succ_eq_append_getElem hil] at hy
        rcases List.mem_append.mp hy with hy | hy
        · exact hni y hy
        · rw [List.mem_singleton.mp hy]; exact h
      have hyes : p l[i] = true → ∃ (k : Nat) (h : k < l.length), Ending.returned (Value.int .i64 i) = .returned (.int .i64 k) ∧ p l[k] = true ∧ ∀ y ∈ l.take k, p y = false := fun h => ⟨i, hil, rfl, h, hni⟩
      replace hni := Lib.hid hni; replace hnn := Lib.hid hnn; replace hyes := Lib.hid hyes
      obtain ⟨y, hy⟩ : ∃ y, l[i] = y := ⟨_, rfl⟩
      rw [hy] at hc hcall hnn hyes
      obtain ⟨py, hpy⟩ : ∃ t, p y = t := ⟨_, rfl⟩
      rw [hpy] at hcall hnn hyes
      clear hy hpy
      go_wp2_with fail
      refine hcall.out.mono ?_
      rintro e w1 ⟨rfl, rfl⟩
      cases py
      · go_wp2
        go_round
        case rel => exact ⟨i + 1, by omega, by go_num, hnn.out trivial⟩
        case measure => simp [intOf]; omega
      · go_wp2
        go_ret
        exact ⟨.inr (hyes.out trivial), rfl⟩
    · have hid : i = l.length := by omega
      subst hid
      rw [List.take_length] at hni
      go_wp2
      go_ret
      exact ⟨⟨rfl, hni⟩, rfl⟩
theorem vInt : ∀ w, (zeroValue 3).run Try.prog w = .ok (.int .i64 0) w := by
  intro w
  have hz : Try.t3.zero = some (.int .i64 0) := by kernel_rfl
  simp [zeroValue, run_underlying uInt, go_sem, hz]
def keep (p : Int → Bool) (l : List Int) : List Int := l.filter fun n => !p n
theorem keep_snoc (p : Int → Bool) (l : List Int) (i : Nat) (h : i < l.length) : keep p (l.take (i + 1)) = if p l[i] then keep p (l.take i) else keep p (l.take i) ++ [l[i]] := by
  unfold keep
  rw [List.take_succ_eq_append_getElem h, List.filter_append]
  by_cases hp : p l[i] <;> simp [hp]
theorem keep_all (p : Int → Bool) (l : List Int) (h : ∀ y ∈ l, p y = false) : keep p l = l := List.filter_eq_self.mpr fun y hy => by rw [h y hy]; rfl
/-- A row whose first cells are being written anew. -/
def Half (w : World) (b off cap : Nat) (l k : List Int) (j : Nat) : Prop := b < w.heap.size ∧ (∀ i, i < cap → (w.cell? ⟨b, off + i, none⟩).isSome = true ∧ w.frozen? ⟨b, off + i, none⟩ = false) ∧
  (∀ i (h : i < k.length), w.cell? ⟨b, off + i, none⟩ = some (.int .i64 k[i])) ∧ ∀ i (h : i < l.length), j ≤ i → w.cell? ⟨b, off + i, none⟩ = some (.int .i64 l[i])
theorem Half.store {w : World} {b off cap : Nat} {l k : List Int} {j : Nat} (h : Half w b off cap l k j) (hk : k.length < j) (hj : j < l.length) (hc : l.length ≤ cap) (y : Int) : Half (w.setCell ⟨b, off + k.length, none⟩ (.int .i64 y)) b off cap l (k ++ [y]) (j + 1) := by
  obtain ⟨h1, h2, h3, h4⟩ := h
  have ne : ∀ i, i ≠ k.length → (⟨b, off + k.length, none⟩ : Addr) ≠ ⟨b, off + i, none⟩ := fun i hi e => by injection e with _ e2; omega
  refine ⟨by simpa [World.setCell] using h1, fun i hi => ⟨?_, by rw [World.frozen?_setCell]; exact (h2 i hi).2⟩, fun i hi => ?_, fun i hi hji => ?_⟩
  · by_cases e : i = k.length
    · subst e; rw [World.cell?_setCell_same' _ _ _ (h2 _ hi).1]; rfl
    · rw [World.cell?_setCell_other _ _ _ _ (ne i e)]; exact (h2 i hi).1
  · by_cases e : i = k.length
    · subst e; rw [World.cell?_setCell_same' _ _ _ (h2 _ (by omega)).1]; simp
    · rw [World.cell?_setCell_other _ _ _ _ (ne i e)]
      have hi' : i < k.length := by simp at hi; omega
      rw [List.getElem_append_left hi']; exact h3 i hi'
  · rw [World.cell?_setCell_other _ _ _ _ (ne i (by omega))]; exact h4 i hi (by omega)
theorem Half.skip {w : World} {b off cap : Nat} {l k : List Int} {j : Nat} (h : Half w b off cap l k j) : Half w b off cap l k (j + 1) := ⟨h.1, h.2.1, h.2.2.1, fun i hi hj => h.2.2.2 i hi (by omega)⟩
/-- What is behind is cleared: the row is cut. -/
theorem Half.cut {w : World} {b off cap : Nat} {l k : List Int} (h : Half w b off cap l k l.length) (hk : k.length ≤ l.length) (hc : l.length ≤ cap) :
    Row 1 (w.setCells b (off + k.length) (List.replicate (l.length - k.length) (.int .i64 0))) (.slice (some ⟨b, off, none⟩) k.length cap) k.length (ints k) (some b) := by
  obtain ⟨h1, h2, h3, h4⟩ := h
  have hin := World.cell?_setCells_in b (List.replicate (l.length - k.length) (Value.int .i64 0)) (off + k.length) w (fun j hj => by
    rw [Nat.add_assoc]; exact (h2 _ (by simp at hj; omega)).1)
  have hsz : ∀ (vs : List Value) (o : Nat) (w : World), (w.setCells b o vs).heap.size = w.heap.size := by
    intro vs
    induction vs with
    | nil => intro o w; rfl
    | cons v r ih => intro o w; exact (ih _ _).trans (by simp [World.setCell])
  refine .inr ⟨b, off, cap, rfl, rfl, by omega, by rw [hsz]; exact h1, by simp [ints], fun j hj => ⟨?_, by rw [World.frozen?_setCells]; exact (h2 j (by omega)).2⟩, fun j hj => ?_⟩
  · by_cases hb : k.length ≤ j ∧ j < l.length
    · have := hin (j - k.length) (by simp; omega)
      rw [show off + k.length + (j - k.length) = off + j by omega] at this
      rw [this]; rfl
    · rw [World.cell?_setCells_out b _ _ _ _ (fun _ _ => by simp; omega)]; exact (h2 j (by omega)).1
  · rw [World.cell?_setCells_out b _ _ _ _ (fun _ _ => by simp; omega), h3 j (by omega)]
    simp [ints, show j < k.length by omega]
theorem delF_any (v : Value) (l : List Int) (bo : Option Nat) (p : Int → Bool) (w : World) (bx : Nat) (hR : Row 1 w v l.length (ints l) bo) (hn : l.length < 1000000) (hp : ∀ w', Fr bo.toList w w' → OverAt bx p w') :
    Calls Try.prog 61 #[v, .func (.func 60) #[] #[.pointer (some ⟨bx, 0, none⟩)]] w fun e w' => ∃ v', e = .returned v' ∧ Row 1 w' v' (keep p l).length (ints (keep p l)) bo ∧ Fr bo.toList w w' := by
  have hI := indexF_any v l p w bx hR.ir0 hn (hp w (Fr.refl _ _))
  obtain ⟨o, cap, rfl⟩ := hR.len
  replace hI := Lib.hid hI; replace hp := Lib.hid hp
  have hR' := hR
  replace hR := Lib.hid hR
  go_enter Try.func61, Try.ntmps61
  go_wp2_with fail
  refine hI.out.mono ?_
  rintro e w1 ⟨⟨rfl, hno⟩ | ⟨k, hk, rfl, hpk, hno⟩, rfl⟩
  · replace hno := Lib.hid hno
    clear hR'
    go_wp2_with fail
    go_ret
    exact ⟨_, rfl, by rw [keep_all p l hno.out]; exact hR.out, Fr.refl _ _⟩
  · rcases hR' with ⟨_, h2, _⟩ | ⟨b, off, cap', rfl, hv, h3, h4, h5, h6, h7⟩
    · omega
    · cases hv
      have hk1 : keep p (l.take (k + 1)) = l.take k := by
        rw [keep_snoc p l k hk, if_pos hpk, keep_all p _ hno]
      have hH : Half w b off cap l (l.take k) (k + 1) := ⟨h4, fun i hi => h6 i (by omega), fun i hi => by
          have hil : i < l.length := by rw [List.length_take] at hi; omega
          rw [h7 i (by omega)]; simp [ints, hil], fun i hi _ => by rw [h7 i (by omega)]; simp [ints, hi]⟩
      have hkI : (((k : Nat) : Int) == -1) = false := by rw [beq_eq_false_iff_ne]; omega
      replace hno := Lib.hid hno; replace hH := Lib.hid hH; replace h5 := Lib.hid h5; replace h6 := Lib.hid h6; replace h7 := Lib.hid h7; replace hpk := Lib.hid hpk; replace hk1 := Lib.hid hk1
      go_wp2_with fail
      go_loopw [5, 6] (fun vi vj wr => ∃ j : Nat, k + 1 ≤ j ∧ j ≤ l.length ∧ vi = .int .i64 (keep p (l.take j)).length ∧ vj = .int .i64 j ∧ (keep p (l.take j)).length < j ∧ Half wr b off cap l (keep p (l.take j)) j ∧ Fr [b] w wr) (fun _ vj _ => (l.length - intOf vj).toNat)
      case atStart => exact ⟨k + 1, by omega, by omega, by rw [hk1.out, List.length_take, Nat.min_eq_left (by omega)], by go_num, by rw [hk1.out, List.length_take]; omega, by rw [hk1.out]; exact hH.out, Fr.refl _ _⟩
      case round =>
        obtain ⟨j, hj0, hj1, rfl, rfl, hlt0, hh, hf⟩ := hrel
        by_cases hlt : (j : Int) < l.length
        · have hjl : j < l.length := by omega
          have hcall := Lib.hid (hp.out wr hf l[j])
          have hcj := hh.2.2.2 j hjl (Nat.le_refl _)
          have hks := keep_snoc p l j hjl
          obtain ⟨y, hy⟩ : ∃ y, l[j] = y := ⟨_, rfl⟩
          rw [hy] at hcall hcj hks
          obtain ⟨py, hpy⟩ : ∃ t, p y = t := ⟨_, rfl⟩
          rw [hpy] at hcall hks
          obtain ⟨kk, hkk⟩ : ∃ kk, keep p (l.take j) = kk := ⟨_, rfl⟩
          rw [hkk] at hks hh hlt0
          simp only [hkk]
          obtain ⟨u0, hsome⟩ := Option.isSome_iff_exists.mp (hh.2.1 kk.length (by omega)).1
          have hfree := (hh.2.1 kk.length (by omega)).2
          have hst := hh.store hlt0 hjl h3 y
          have hkb : (0 : Int) ≤ kk.length ∧ (kk.length : Int) < l.length := by omega
          replace hh := Lib.hid hh; replace hf := Lib.hid hf; replace hks := Lib.hid hks; replace hst := Lib.hid hst
          clear hy hpy hkk
          go_wp2_with fail
          refine hcall.out.mono ?_
          rintro e w1 ⟨rfl, rfl⟩
          cases py
          · go_wp2_with fail
            go_roundw
            case rel => exact ⟨j + 1, by omega, by omega, by rw [hks.out]; simp, by go_num, by rw [hks.out]; simp; omega, by rw [hks.out]; exact hst.out, hf.out.setCell (by simp) _⟩
            case measure => simp [intOf]; omega
          · go_wp2_with fail
            go_roundw
            case rel => exact ⟨j + 1, by omega, by omega, by rw [hks.out]; rfl, by go_num, by rw [hks.out]; simp; omega, by rw [hks.out]; exact hh.out.skip, hf.out⟩
            case measure => simp [intOf]; omega
        · have hid : j = l.length := by omega
          subst hid
          rw [List.take_length] at hh hlt0
          have hcut := hh.cut (by omega) h3
          have hfr : Fr [b] w (wr.setCells b (off + (keep p l).length) (List.replicate (l.length - (keep p l).length) (.int .i64 0))) := Fr.setCells (by simp) _ _ _ hf
          have hcl := fun ty => Lib.run_clear_slice (P := Try.prog) wr _ _ ty _ uInts vInt rfl rfl b (off + (keep p l).length) (l.length - (keep p l).length) (cap - (keep p l).length) (by omega) (fun t ht => by rw [Nat.add_assoc]; exact (hh.2.1 _ (by omega)).1) (fun t ht => by rw [Nat.add_assoc]; exact (hh.2.1 _ (by omega)).2)
          rw [List.take_length]
          obtain ⟨kl, hkl⟩ : ∃ kl, (keep p l).length = kl := ⟨_, rfl⟩
          rw [hkl] at hcut hfr hcl hlt0
          rw [hkl]
          have hkb : (kl : Int) ≤ l.length ∧ (kl : Int) ≤ cap := by omega
          have hkb2 : kl ≤ cap := by omega
          replace hh := Lib.hid hh; replace hf := Lib.hid hf; replace hcut := Lib.hid hcut; replace hfr := Lib.hid hfr; replace hcl := Lib.hid hcl
          replace hkl := Lib.hid hkl
          go_wp2_with fail
          rw [hcl.out]
          go_wp2_with fail
          go_ret
          exact ⟨_, rfl, by rw [hkl.out]; exact hcut.out, hfr.out⟩
def SS.pruned (s : SS) : SS := { s with own := keep (over s.a s.m) s.own, theirs := keep (over s.a s.m) s.theirs }
/-- A side in memory. -/
def SM (X : List Nat) (w : World) (b : Nat) (s : SS) : Prop := ∃ vo vt, Pt w b TSide (s.cells vo vt) ∧ IR X w vo s.own b ∧ IR X w vt s.theirs b
theorem keep_len (p : Int → Bool) (l : List Int) : (keep p l).length ≤ l.length := List.length_filter_le _ _
theorem prune_any (b : Nat) (s : SS) (w : World) (h : SM X w b s) (hn : s.own.length < 1000000 ∧ s.theirs.length < 1000000) :
    Calls Try.prog 56 #[.pointer (some ⟨b, 0, none⟩)] w fun e w' => e = .returned (.tuple #[]) ∧ SM X w' b s.pruned ∧ Fr [b] w w' := by
  obtain ⟨vo, vt, hp, ho, ht⟩ := h
  obtain ⟨wb, hwb⟩ : ∃ x, w.alloc (.cells #[.pointer (some ⟨b, 0, none⟩)] 25) = x := ⟨_, rfl⟩
  have PB := Pt.newA w 25 #[.pointer (some ⟨b, 0, none⟩)]
  rw [hwb] at PB
  have FB : Fr [] w wb := by rw [← hwb]; exact (Fr.refl [] w).alloc _
  obtain ⟨bx, hbx⟩ : ∃ x, w.heap.size = x := ⟨_, rfl⟩
  rw [hbx] at PB
  have hlt := hp.lt
  have hp1 := FB.pt hp (by simp)
  have ho1 := ho.fr FB (by simp)
  have ht1 := ht.fr FB (by simp)
  -- the 1 list
  have C1 := clone_any vo s.own wb.drew b (ho1.fr ((Fr.refl [] wb).drew) (by simp)) hn.1
  have hS1 : ∀ (ex : List Nat) w', Fr ex wb.drew w' → (∀ z ∈ ex, bx < z) → w'.cell? ⟨bx, 0, none⟩ = some (.pointer (some ⟨b, 0, none⟩)) := fun ex w' hf hx => (hf.pt PB.drew (fun hm => by have := hx _ hm; omega)).cell 0
  have hb10 := hS1 [] _ (Fr.refl _ _) (by simp)
  have hpb1 := PB.lt
  have hown1 := hp1.drew.cell
  have OV1 : ∀ w', (∃ ex : List Nat, Fr ex wb.drew w' ∧ ∀ z ∈ ex, bx < z) → OverAt bx (over s.a s.m) w' := fun w' ⟨ex, hf, hx⟩ n => over_any b bx s vo vt n w' (hf.pt hp1.drew (fun hm => by have := hx _ hm; omega)) (hf.pt PB.drew (fun hm => by have := hx _ hm; omega))
  simp only [SS.cells] at hown1
  replace C1 := Lib.hid C1; replace OV1 := Lib.hid OV1; replace hS1 := Lib.hid hS1
  go_enter Try.func56, Try.ntmps56
  go_upto_region 2 with fail
  go_cut [11] from 4 (fun v wx => ∃ v', Pt wx b TSide ((SS.cells { s with own := keep (over s.a s.m) s.own } v' vt)) ∧ IR X wx v' (keep (over s.a s.m) s.own) b ∧ IR X wx vt s.theirs b ∧ Pt wx bx 25 [.pointer (some ⟨b, 0, none⟩)] ∧ Fr [b] wb wx)
  case first =>
    go_region_law (first
      | (go_simp; go_at_call 27; refine C1.out.mono ?_; rintro e w2 ⟨v2, bo2, rfl, hR2, hb2, f2⟩; replace hR2 := Lib.hid hR2; replace hb2 : Hid (∀ z, bo2 = some z → wb.heap.size ≤ z) := Lib.hid hb2; replace f2 := Lib.hid f2; have s2 := hS1.out [] _ f2.out (by simp); have HF3 := (fun (w' : World) (hf : Fr bo2.toList w2 w') => (((f2.out).mono (by simp)).trans hf : Fr bo2.toList wb.drew w')); have OV2 := (fun (w' : World) (hf : Fr bo2.toList w2 w') => OV1.out w' ⟨bo2.toList, HF3 w' hf, fun z hz => Nat.lt_of_lt_of_le hpb1 (hb2.out z (by simpa using hz))⟩); replace OV2 := Lib.hid OV2; replace HF3 := Lib.hid HF3)
      | (go_simp; go_at_call 61; refine (delF_any v2 s.own bo2 (over s.a s.m) _ bx hR2.out hn.1 OV2.out).mono ?_; rintro e w3 ⟨v3, rfl, hR3, f3⟩; have P3 := (HF3.out w3 f3).pt hp1.drew (fun hm => by have := hb2.out b (by simpa using hm); omega); have z3 := P3.free; have y3 := P3.cell; simp only [SS.cells] at y3; have s3 := hS1.out _ w3 (HF3.out w3 f3) (fun z hz => Nat.lt_of_lt_of_le hpb1 (hb2.out z (by simpa using hz))); obtain ⟨o3, c3, rfl⟩ := hR3.len; replace hR3 := Lib.hid hR3; replace f3 := Lib.hid f3; replace P3 := Lib.hid P3))
    all_goals
      go_wp2_with fail
      go_meet
      case rel =>
        have F0 : Fr [] wb w3 := ((Fr.refl [] wb).drew).step (HF3.out w3 f3.out) (fun x hx => .inr (hb2.out x (by simpa using hx)))
        have FS : Fr [b] w3 (w3.setCell ⟨b, 6, none⟩ (.slice o3 (keep (over s.a s.m) s.own).length c3)) := (Fr.refl _ _).setCell (by simp) _
        have FW : Fr [b] wb (w3.setCell ⟨b, 6, none⟩ (.slice o3 (keep (over s.a s.m) s.own).length c3)) := (F0.mono (by simp)).trans FS
        have hbz : ∀ z, bo2 = some z → z ∉ X := fun z hz hm => by have := hb2.out z hz; have := ho1.1.2 z hm; omega
        have IN := (hR3.out.fr FS (fun z hz => by have h5 := hbz z hz; simp only [List.mem_singleton]; exact fun e => h5 (e ▸ ho1.1.1))).ir (ho1.1.fr FW) hbz
        exact ⟨_, P3.out.set' rfl, IN, ht1.fr FW (by simp), FW.pt PB (by simp; omega), FW⟩
  case rest =>
    obtain ⟨v1, P1, I1, T1, X1, F1⟩ := hcut
    -- the 2 list
    have C2 := clone_any vt s.theirs wc.drew b (T1.fr ((Fr.refl [] wc).drew) (by simp)) hn.2
    have hS2 : ∀ (ex : List Nat) w', Fr ex wc.drew w' → (∀ z ∈ ex, bx < z) → w'.cell? ⟨bx, 0, none⟩ = some (.pointer (some ⟨b, 0, none⟩)) := fun ex w' hf hx => (hf.pt X1.drew (fun hm => by have := hx _ hm; omega)).cell 0
    have hb20 := hS2 [] _ (Fr.refl _ _) (by simp)
    have hpb2 := X1.lt
    have hown2 := P1.drew.cell
    have OV2 : ∀ w', (∃ ex : List Nat, Fr ex wc.drew w' ∧ ∀ z ∈ ex, bx < z) → OverAt bx (over s.a s.m) w' := fun w' ⟨ex, hf, hx⟩ n => over_any b bx { s with own := keep (over s.a s.m) s.own } v1 vt n w' (hf.pt P1.drew (fun hm => by have := hx _ hm; omega)) (hf.pt X1.drew (fun hm => by have := hx _ hm; omega))
    simp only [SS.cells] at hown2
    replace C2 := Lib.hid C2; replace OV2 := Lib.hid OV2; replace hS2 := Lib.hid hS2
    go_wp2_with fail
    go_region_law (first
      | (go_simp; go_at_call 27; refine C2.out.mono ?_; rintro e w2 ⟨v2, bo2, rfl, hR2, hb2, f2⟩; replace hR2 := Lib.hid hR2; replace hb2 : Hid (∀ z, bo2 = some z → wc.heap.size ≤ z) := Lib.hid hb2; replace f2 := Lib.hid f2; have s2 := hS2.out [] _ f2.out (by simp); have HF3 := (fun (w' : World) (hf : Fr bo2.toList w2 w') => (((f2.out).mono (by simp)).trans hf : Fr bo2.toList wc.drew w')); have OV2 := (fun (w' : World) (hf : Fr bo2.toList w2 w') => OV2.out w' ⟨bo2.toList, HF3 w' hf, fun z hz => Nat.lt_of_lt_of_le hpb2 (hb2.out z (by simpa using hz))⟩); replace OV2 := Lib.hid OV2; replace HF3 := Lib.hid HF3)
      | (go_simp; go_at_call 61; refine (delF_any v2 s.theirs bo2 (over s.a s.m) _ bx hR2.out hn.2 OV2.out).mono ?_; rintro e w3 ⟨v3, rfl, hR3, f3⟩; have P3 := (HF3.out w3 f3).pt P1.drew (fun hm => by have := hb2.out b (by simpa using hm); omega); have z3 := P3.free; have y3 := P3.cell; simp only [SS.cells] at y3; have s3 := hS2.out _ w3 (HF3.out w3 f3) (fun z hz => Nat.lt_of_lt_of_le hpb2 (hb2.out z (by simpa using hz))); obtain ⟨o3, c3, rfl⟩ := hR3.len; replace hR3 := Lib.hid hR3; replace f3 := Lib.hid f3; replace P3 := Lib.hid P3))
    all_goals
      go_wp2_with fail
      go_end0
      have F0 : Fr [] wc w3 := ((Fr.refl [] wc).drew).step (HF3.out w3 f3.out) (fun x hx => .inr (hb2.out x (by simpa using hx)))
      have FS : Fr [b] w3 (w3.setCell ⟨b, 7, none⟩ (.slice o3 (keep (over s.a s.m) s.theirs).length c3)) := (Fr.refl _ _).setCell (by simp) _
      have FW : Fr [b] wc (w3.setCell ⟨b, 7, none⟩ (.slice o3 (keep (over s.a s.m) s.theirs).length c3)) := (F0.mono (by simp)).trans FS
      have hbz : ∀ z, bo2 = some z → z ∉ X := fun z hz hm => by have := hb2.out z hz; have := T1.1.2 z hm; omega
      have IN := (hR3.out.fr FS (fun z hz => by have h5 := hbz z hz; simp only [List.mem_singleton]; exact fun e => h5 (e ▸ T1.1.1))).ir (T1.1.fr FW) hbz
      exact ⟨rfl, ⟨_, _, P3.out.set' rfl, I1.fr FW (by simp), IN⟩, (FB.mono (by simp)).trans (F1.trans FW)⟩
end Go.Proofs.Ytjgmlnkbplgloaa
