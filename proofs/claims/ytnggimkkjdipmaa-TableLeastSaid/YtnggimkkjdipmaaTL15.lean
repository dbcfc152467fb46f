import Derived.Test.YtnggimkkjdipmaaTD10
import Derived.Test.YtnggimkkjdipmaaTL11
namespace Go.Proofs.Ytnggimkkjdipmaa
open Go.RowKit
set_option linter.unusedVariables false
set_option linter.unusedSimpArgs false
set_option maxHeartbeats 16000000
set_option maxRecDepth 100000
/-! ### The reference's meet -/
theorem rmeet_any (T : Tb) (hV : VT T) (n B0 : Nat) (hn : T.st = (n : Int)) (dv : Value) (bo : Option Nat) (bs : Nat → Nat) (M : Nat → Nat → Bool) (q : Nat → Prop) (lv : Value) (l : List Int) (s : Nat) (w : World)
    (hM : MtI B0 n n w dv bo bs M) (hAp : ∀ a b : Nat, a < n → b < n → (M a b = true ↔ Ap T T a b)) (hl : NInB q w lv l) (hq : ∀ z, w.heap.size ≤ z → q z) (hlr : ∀ x ∈ l, 0 ≤ x ∧ x < T.st) (hs : s < n) (hlen : l.length ≤ 100) :
    Calls Try.prog 106 #[dv, lv, .int .i64 s] w fun e w' => ∃ v', e = .returned v' ∧ NInB q w' v' (mtL T l s) ∧ Fr [] w w' := by
  obtain ⟨bq, oq, cq, rfl, _⟩ := hM.get 0 (by omega)
  have hl0 := hl
  obtain ⟨o, cap, rfl, hl⟩ := hl
  have hcl : ∀ a : Nat, a < n → (M a s = false ↔ gI (classes T) a = gI (classes T) s) := fun a ha => by
    have h1 := hAp a s ha hs
    have h2 := ap_cls hV (s := (a : Int)) (t := (s : Int)) ⟨by omega, by omega⟩ ⟨by omega, by omega⟩
    constructor
    · intro hm
      exact Classical.byContradiction fun hc => by rw [h1.mpr (h2.mpr hc)] at hm; cases hm
    · intro hc
      cases hm : M a s with
      | false => rfl
      | true => exact absurd hc (h2.mp (h1.mp hm))
  replace hM := Lib.hid hM; replace hl := Lib.hid hl; replace hl0 := Lib.hid hl0; replace hcl := Lib.hid hcl; replace hlr := Lib.hid hlr; replace hn := Lib.hid hn; replace hAp := Lib.hid hAp
  go_enter Try.func106, Try.ntmps106
  go_wp2_with fail
  go_loopg [7] (l.length + 1) (fun k v7 wr => ∃ i : Nat, i ≤ l.length ∧ k + i = l.length + 1 ∧ v7 = .int .i64 i ∧ (∀ j (h : j < l.length), j < i → gI (classes T) l[j] ≠ gI (classes T) s) ∧ Fr [] w wr)
  case atStart => exact ⟨0, by omega, by omega, rfl, fun j _ hj => by omega, Fr.refl _ _⟩
  case round =>
    obtain ⟨i, hi, hk, rfl, hno, hF⟩ := hrel
    obtain ⟨wi, rfl⟩ : ∃ x : World, x = wr := ⟨_, rfl⟩
    by_cases hlt : i < l.length
    · have hltI : (i : Int) < l.length := by omega
      obtain ⟨B1, f1, rfl, hB1, _, x1⟩ := hl.out i hlt
      have x1 := (hF.cell (p := ⟨B1, f1 + i, none⟩) hB1 (by simp)).trans x1
      have hr1 := hlr.out _ (List.getElem_mem hlt)
      rw [hn.out] at hr1
      obtain ⟨a, ha⟩ : ∃ a : Nat, l[i] = (a : Int) := ⟨l[i].toNat, by omega⟩
      rw [ha] at x1 hr1
      have han : a < n := by omega
      obtain ⟨bq', oq', cq', e9, _, y1, z1⟩ := (hM.out.frz hF (by simp)).get a han
      obtain ⟨⟨rfl, rfl⟩, rfl⟩ : (bq = bq' ∧ oq = oq') ∧ cq = cq' := by simpa using e9
      replace z1 := z1 s hs
      have hc := hcl.out a han
      clear e9
      cases hm : M a s
      · rw [hm] at z1
        have hres : mtL T l s = l := by
          unfold mtL
          rw [if_pos]
          simp only [List.any_eq_true, decide_eq_true_eq]
          exact ⟨l[i], List.getElem_mem hlt, by rw [ha]; exact hc.mp hm⟩
        have GN : NInB q wi _ l := hl0.out.frq hF (fun b _ h => ⟨by simp, h⟩)
        replace hno := Lib.hid hno; replace hF := Lib.hid hF; replace hc := Lib.hid hc; replace hm := Lib.hid hm; replace ha := Lib.hid ha; replace hres := Lib.hid hres; replace GN := Lib.hid GN; replace hr1 := Lib.hid hr1
        go_wp2_with fail
        go_ret
        exact ⟨_, rfl, by rw [hres.out]; exact GN.out, hF.out⟩
      · rw [hm] at z1
        have hno' : ∀ j (h : j < l.length), j < i + 1 → gI (classes T) l[j] ≠ gI (classes T) s := fun j h hj => by
          by_cases e : j = i
          · subst e; rw [ha]; intro hc'
            have := hc.mpr hc'
            rw [hm] at this; cases this
          · exact hno j h (by omega)
        replace hno := Lib.hid hno; replace hF := Lib.hid hF; replace hc := Lib.hid hc; replace hm := Lib.hid hm; replace ha := Lib.hid ha; replace hno' := Lib.hid hno'; replace hr1 := Lib.hid hr1
        go_wp2_with fail
        go_roundg (gk - 1)
        case measure => omega
        case rel => exact ⟨i + 1, by omega, by omega, by go_num, hno'.out, hF.out⟩
    · have hltI : ¬ (i : Int) < l.length := by omega
      have hres : mtL T l s = l ++ [(s : Int)] := by
        unfold mtL
        rw [if_neg]
        simp only [List.any_eq_true, decide_eq_true_eq]
        rintro ⟨x, hx, he⟩
        obtain ⟨j, hj, rfl⟩ := List.getElem_of_mem hx
        exact hno j hj (by omega) he
      have C := rcopy_any _ l wi (hl0.out.nin.fr hF) (by omega)
      replace hno := Lib.hid hno; replace hF := Lib.hid hF; replace hres := Lib.hid hres; replace C := Lib.hid C
      go_wp2_with fail
      refine C.out.mono ?_
      rintro e w2 ⟨v2, bo2, rfl, hr2, hb2, f2⟩
      obtain ⟨v3, w3, bo3, happ, hr3, hb3, f3⟩ := hr2.one (by omega) (s : Int)
      have FF : Fr [] w w3 := (hF.out.trans f2).step f3 (fun z hz => .inr (by have := hb2 z (by simpa using hz); have := hF.out.size; omega))
      have GN : NInB q w3 v3 (l ++ [(s : Int)]) := hr3.ninb (fun z hz => hq z (by have := hF.out.size; have := f2.size; rcases hb3 with e | ⟨z', e, h⟩; first | (have := hb2 z (by rw [← e]; exact hz); omega); first | (rw [hz] at e; cases e; omega)))
      obtain ⟨o2, c2, rfl⟩ := hr2.len
      replace hr2 := Lib.hid hr2; replace hb2 := Lib.hid hb2; replace f2 := Lib.hid f2; replace hr3 := Lib.hid hr3; replace f3 := Lib.hid f3; replace FF := Lib.hid FF; replace GN := Lib.hid GN; replace happ := Lib.hid happ
      go_wp2_with (first | (at_builtin; refine wpList_append_run _ rfl _ _ _ rfl rfl rfl happ.out ?_))
      go_ret
      exact ⟨_, rfl, by rw [hres.out]; exact GN.out, FF.out⟩
end Go.Proofs.Ytnggimkkjdipmaa
namespace Go.Proofs.Ytnggimkkjdipmaa
open Go.RowKit
set_option linter.unusedVariables false
set_option linter.unusedSimpArgs false
set_option maxHeartbeats 16000000
set_option maxRecDepth 100000
/-! ### The reference's walk -/
theorem RIn.addr {T : Tb} (hV : VT T) {w : World} {r : Value} (h : RIn w r T.rows) {n : Nat} (hn : T.st = (n : Int)) : ∃ B off cap, r = .slice (some ⟨B, off, none⟩) n cap := by
  obtain ⟨o, cap, rfl, hl⟩ := h
  have h1 := hV.rows; have h2 := hV.st
  obtain ⟨B, off, u, rfl, _⟩ := hl 0 (by omega)
  exact ⟨B, off, cap, by rw [show T.rows.length = n by omega]⟩
theorem RIn.at {T : Tb} (hV : VT T) {w : World} {B off n cap : Nat} (h : RIn w (.slice (some ⟨B, off, none⟩) n cap) T.rows) {m : Nat} (hm : T.ev = (m : Int)) (x j : Nat) (hx : (x : Int) < T.st) (hj : j < m) :
    ∃ B2 off2 cap2, B < w.heap.size ∧ w.cell? ⟨B, off + x, none⟩ = some (.slice (some ⟨B2, off2, none⟩) m cap2) ∧ w.cell? ⟨B2, off2 + j * 2, none⟩ = some (.int .i64 (T.at x j).1) ∧ w.cell? ⟨B2, off2 + j * 2 + 1, none⟩ = some (.int .i64 (T.at x j).2) := by
  obtain ⟨o, cap', e, hl⟩ := h
  have h1 := hV.rows
  have hx2 : x < T.rows.length := by omega
  obtain ⟨B', off', u, e2, hB, hc, o2, cap2, rfl, hu⟩ := hl x hx2
  have hr := hV.row _ (List.getElem_mem hx2)
  have hj2 : j < T.rows[x].length := by omega
  obtain ⟨B2, off2, rfl, hB2, a1, a2⟩ := hu j hj2
  subst e2
  obtain ⟨⟨rfl, rfl⟩, _⟩ : (B = B' ∧ off = off') ∧ _ := by simpa using e
  obtain ⟨_, _, hat⟩ := hV.get (s := (x : Int)) (e := (j : Int)) (by omega) hx (by omega) (by omega)
  simp only [Int.toNat_natCast] at hat
  rw [hat]
  exact ⟨B2, off2, cap2, hB, by rw [hc, show T.rows[x].length = m by omega], a1, a2⟩
def negs (i n : Nat) : List Int := (List.range n).map fun j => if j < i then -1 else 0
theorem negs_zero (n : Nat) : List.replicate n (0 : Int) = negs 0 n := by
  apply List.ext_getElem
  · simp [negs]
  · intro i h1 h2; simp [negs]
theorem negs_all (n : Nat) : negs n n = List.replicate n (-1) := by
  apply List.ext_getElem
  · simp [negs]
  · intro i h1 h2
    have : i < n := by simpa [negs] using h1
    simp [negs, this]
theorem negs_get (i n j : Nat) (h : j < n) : ∃ x, (ints (negs i n))[j]? = some (.int .i64 x) := ⟨if j < i then -1 else 0, by simp [negs, ints, h]⟩
theorem negs_set (i n : Nat) (h : i < n) : (ints (negs i n)).set i (.int .i64 (-1)) = ints (negs (i + 1) n) := by
  rw [ints_set]
  congr 1
  apply List.ext_getElem
  · simp [negs]
  · intro j h1 h2
    simp only [negs, List.getElem_set, List.getElem_map, List.getElem_range]
    by_cases e : i = j
    · subst e; simp
    · rw [if_neg e]
      by_cases h3 : j < i
      · rw [if_pos h3, if_pos (by omega)]
      · rw [if_neg h3, if_neg (by omega)]
theorem ints_get (l : List Int) (j : Nat) (h : j < l.length) : (ints l)[j]? = some (.int .i64 (gI l j)) := by
  simp [ints, gI, h]
theorem MtI.frx {B0 k nb : Nat} {wr : World} {v : Value} {bo : Option Nat} {bs : Nat → Nat} {M : Nat → Nat → Bool} (h : MtI B0 k nb wr v bo bs M) {ex : List Nat} {W : World} (f : Fr ex wr W) (hx : ∀ x ∈ ex, wr.heap.size ≤ x) : MtI B0 k nb W v bo bs M :=
  ⟨h.row.fr f (fun z hz hm => by have h3 := h.row; rw [hz] at h3; have := h3.lt; have := hx z hm; omega), fun r hr => f.pt (h.cell r hr) (fun hm => by have := (h.cell r hr).lt; have := hx _ hm; omega), h.inj, h.nbo, h.low, h.lob⟩
def WkR (T : Tb) (w : World) (e : Ending) (w' : World) : Prop :=
  ∃ v1 l bn N, e = .returned (.tuple #[v1, .slice (some ⟨bn, 0, none⟩) T.st.toNat T.st.toNat]) ∧ NIn w' v1 l ∧ Rho T l ∧ Pt w' bn 3 (ints N) ∧ NuOk T N T.st.toNat 0 ∧ Fr [] w w'
theorem rwalk_any (T : Tb) (v : Value) (w : World) (hT : TIn w v T) (hV : VT T) :
    Calls Try.prog 94 #[v] w (WkR T w) := by
  obtain ⟨r, rfl, hR⟩ := hT
  have hst := hV.st; have hsr := hV.sr; have hev := hV.ev
  obtain ⟨n, hn⟩ : ∃ n : Nat, T.st.toNat = n := ⟨_, rfl⟩
  obtain ⟨m, hm⟩ : ∃ n : Nat, T.ev.toNat = n := ⟨_, rfl⟩
  obtain ⟨s0, hs0⟩ : ∃ n : Nat, T.sr.toNat = n := ⟨_, rfl⟩
  have hnI : T.st = (n : Int) := by omega
  have hmI : T.ev = (m : Int) := by omega
  have hsI : T.sr = (s0 : Int) := by omega
  have hn30 : n ≤ 30 := by omega
  have hn1 : 1 ≤ n := by omega
  have hm30 : m ≤ 12 := by omega
  obtain ⟨BB, off, cap, rfl⟩ := hR.addr hV hnI
  rw [show T.val (.slice (some ⟨BB, off, none⟩) n cap) = .agg #[.int .i64 T.st, .int .i64 T.ev, .int .i64 T.sr, .slice (some ⟨BB, off, none⟩) n cap] from rfl]
  obtain ⟨w1, hw1⟩ : ∃ x, w.alloc (.cells #[.int .i64 T.st, .int .i64 T.ev, .int .i64 T.sr, .slice (some ⟨BB, off, none⟩) n cap] RTab) = x := ⟨_, rfl⟩
  have P1 := Pt.newA w RTab #[.int .i64 T.st, .int .i64 T.ev, .int .i64 T.sr, .slice (some ⟨BB, off, none⟩) n cap]
  rw [hw1] at P1
  have F1 : Fr [] w w1 := by rw [← hw1]; exact (Fr.refl [] w).alloc _
  obtain ⟨b1, hb1⟩ : ∃ x, w.heap.size = x := ⟨_, rfl⟩
  rw [hb1] at P1
  have AC := rapart_any T T _ _ w1 ⟨_, rfl, hR.fr F1⟩ ⟨_, rfl, hR.fr F1⟩ hV hV rfl
  rw [show T.val (.slice (some ⟨BB, off, none⟩) n cap) = .agg #[.int .i64 T.st, .int .i64 T.ev, .int .i64 T.sr, .slice (some ⟨BB, off, none⟩) n cap] from rfl] at AC
  have k1 := P1.cell
  have hst0 : (0 : Int) ≤ T.st := by omega
  have hst1 : T.st ≤ 1000 := by omega
  replace hR := Lib.hid hR; replace hV := Lib.hid hV; replace AC := Lib.hid AC; replace hn := Lib.hid hn; replace hm := Lib.hid hm; replace hs0 := Lib.hid hs0; replace hnI := Lib.hid hnI; replace hmI := Lib.hid hmI; replace hsI := Lib.hid hsI; replace hst := Lib.hid hst; replace hsr := Lib.hid hsr; replace hev := Lib.hid hev
  go_enter Try.func94, Try.ntmps94
  go_wp2_with fail
  refine AC.out.mono ?_
  rintro e w2 ⟨dv, bo, bs, M, rfl, hM, hAp, f2⟩
  have F2 := F1.trans f2
  have P2 := f2.pt P1 (by simp)
  have hmk := make_ints T.st w2 hst0 hst1
  rw [hn.out] at hM hmk
  rw [negs_zero] at hmk
  have hAp : ∀ a b : Nat, a < n → b < n → (M a b = true ↔ Ap T T a b) := fun a b ha hb => hAp a b (by rw [hnI.out]; omega) (by rw [hnI.out]; omega)
  obtain ⟨w3, hw3⟩ : ∃ x, w2.alloc (.cells (ints (negs 0 n)).toArray 3) = x := ⟨_, rfl⟩
  have P3 := Pt.new w2 3 (ints (negs 0 n))
  rw [hw3] at hmk P3
  have F3 : Fr [] w2 w3 := by rw [← hw3]; exact (Fr.refl [] w2).alloc _
  obtain ⟨bn, hbn⟩ : ∃ x, w2.heap.size = x := ⟨_, rfl⟩
  rw [hbn] at hmk P3
  have lt1 : b1 < bn := by have := P2.lt; omega
  clear k1 hb1 hw1 hw3
  have k2 := P2.cell
  have CM : ∀ (W : World) (lv : Value) (l : List Int) (s : Nat), Fr [] w3 W → NInB (fun b => b ≠ bn) W lv l → WaI T l → s < n → Calls Try.prog 106 #[dv, lv, .int .i64 s] W fun e w' => ∃ v', e = .returned v' ∧ NInB (fun b => b ≠ bn) w' v' (mtL T l s) ∧ Fr [] W w' := fun W lv l s hf hl hI hs =>
    rmeet_any T hV.out n w1.heap.size hnI.out dv bo bs M _ lv l s W ((hM.frz F3 (by simp)).frz hf (by simp)) hAp hl (fun z hz => by have := hf.size; have := P3.lt; omega) (fun x hx => (order_ok hV.out).rng x (hI.mem x hx)) hs (by have := hI.len hV.out; have := hn.out; omega)
  obtain ⟨bq, oq, cq, rfl, _⟩ := hM.get 0 (by omega)
  replace hM := Lib.hid hM; replace hAp := Lib.hid hAp; replace P1 := Lib.hid P1; replace P2 := Lib.hid P2; replace P3 := Lib.hid P3; replace F1 := Lib.hid F1; replace F2 := Lib.hid F2; replace F3 := Lib.hid F3; replace f2 := Lib.hid f2; replace CM := Lib.hid CM; replace hbn := Lib.hid hbn; replace lt1 := Lib.hid lt1
  go_wp2_with fail
  clear hmk k2
  go_loopg [7] (n + 1) (fun k v7 wr => ∃ i : Nat, i ≤ n ∧ k + i = n + 1 ∧ v7 = .int .i64 i ∧ Pt wr bn 3 (ints (negs i n)) ∧ Fr [bn] w3 wr)
  case atStart => exact ⟨0, by omega, by omega, rfl, P3.out, Fr.refl _ _⟩
  case round =>
    obtain ⟨i, hi, hk, rfl, hN, hF⟩ := hrel
    obtain ⟨wi, rfl⟩ : ∃ x : World, x = wr := ⟨_, rfl⟩
    have k1 := (hF.pt (F3.out.pt P2.out (by simp)) (by have := lt1.out; simp; omega)).cell
    by_cases hlt : i < n
    · have hltI : (i : Int) < T.st := by rw [hnI.out]; omega
      have hltN : (i : Int) < (n : Int) := by omega
      obtain ⟨x, c1⟩ := negs_get i n i hlt
      rw [← hN.cell] at c1
      have z1 := hN.free i
      have hN2 := hN.set i (.int .i64 (-1))
      rw [negs_set i n hlt] at hN2
      have GF : Fr [bn] w3 (wi.setCell ⟨bn, i, none⟩ (.int .i64 (-1))) := hF.setCell (.inl (by simp)) _
      replace hN := Lib.hid hN; replace hF := Lib.hid hF; replace hN2 := Lib.hid hN2; replace GF := Lib.hid GF
      go_wp2_with fail
      go_roundg (gk - 1)
      case measure => omega
      case rel => exact ⟨i + 1, by omega, by omega, by go_num, hN2.out, GF.out⟩
    · have hltI : ¬ (i : Int) < T.st := by rw [hnI.out]; omega
      obtain rfl : i = n := by omega
      rw [negs_all] at hN
      have hs0n : s0 < i := by have := hsr.out; have := hnI.out; have := hsI.out; omega
      have FE : Fr [] w3 w3 := Fr.refl _ _
      have hF2 : Fr [] w2 wi := F3.out.step hF (fun z hz => .inr (by have := hbn.out; simp at hz; omega))
      have C : Calls Try.prog 106 #[.slice (some ⟨bq, oq, none⟩) i cq, .slice none 0 0, .int .i64 s0] wi fun e w' => ∃ v', e = .returned v' ∧ NInB (fun b => b ≠ bn) w' v' (mtL T [] s0) ∧ Fr [] wi w' :=
        rmeet_any T hV.out i w1.heap.size hnI.out _ bo bs M _ _ [] s0 wi (hM.out.frz hF2 (by simp)) hAp.out ⟨none, 0, rfl, fun i h => by simp at h⟩ (fun z hz => by have := hN.lt; omega) (by simp) hs0n (by simp)
      have k9 : wi.cell? ⟨b1, 2, none⟩ = some (.int .i64 s0) := by rw [k1]; simp [hsI.out]
      have e0 : mtL T [] (s0 : Int) = [T.sr] := by rw [hsI.out]; rfl
      rw [e0] at C
      have k0 : wi.cell? ⟨b1, 0, none⟩ = some (.int .i64 T.st) := k1 0
      clear k1
      replace hF := Lib.hid hF; replace hF2 := Lib.hid hF2; replace hN := Lib.hid hN; replace C := Lib.hid C; replace e0 := Lib.hid e0
      go_wp2_with fail
      refine C.out.mono ?_
      rintro e w4 ⟨v4, rfl, n4, f4⟩
      have W0 := WoI.start hV.out
      have F4 := hF2.out.trans f4
      have N4 := f4.pt hN.out (by simp)
      have CM : ∀ (W : World) (lv : Value) (l : List Int) (s : Nat), Fr [] w4 W → NInB (fun b => b ≠ bn) W lv l → WaI T l → s < i → Calls Try.prog 106 #[.slice (some ⟨bq, oq, none⟩) i cq, lv, .int .i64 s] W fun e w' => ∃ v', e = .returned v' ∧ NInB (fun b => b ≠ bn) w' v' (mtL T l s) ∧ Fr [] W w' := fun W lv l s hf hl hI hs =>
        rmeet_any T hV.out i w1.heap.size hnI.out _ bo bs M _ lv l s W ((hM.out.frz F4 (by simp)).frz hf (by simp)) hAp.out hl (fun z hz => by have := hf.size; have := N4.lt; omega) (fun x hx => (order_ok hV.out).rng x (hI.mem x hx)) hs (by have := hI.len hV.out; have := hn.out; omega)
      clear k9 k0
      replace n4 := Lib.hid n4; replace f4 := Lib.hid f4; replace W0 := Lib.hid W0; replace F4 := Lib.hid F4; replace N4 := Lib.hid N4; replace CM := Lib.hid CM
      go_wp2_with fail
      go_loopg [5, 8] 40 (fun kk v5 v8 wr => ∃ (k : Nat) (l : List Int), kk + k = 40 ∧ v8 = .int .i64 k ∧ WoI T l k ∧ NInB (fun b => b ≠ bn) wr v5 l ∧ Fr [] w4 wr)
      case atStart => exact ⟨0, _, by omega, rfl, W0.out, n4.out, Fr.refl _ _⟩
      case round =>
        obtain ⟨k, l, hk2, rfl, hW, hl, hF4⟩ := hrel
        obtain ⟨wo, rfl⟩ : ∃ x : World, x = wr := ⟨_, rfl⟩
        obtain ⟨go, rfl⟩ : ∃ g : Nat, g = gk := ⟨_, rfl⟩
        have hl0 := hl
        obtain ⟨o, cl, rfl, hl1⟩ := hl
        have hlen := hW.toWaI.len hV.out
        rw [hn.out] at hlen
        by_cases hkl : k < l.length
        · as_aux_lemma =>
          have hklI : (k : Int) < l.length := by omega
          have hE := hW.enter hV.out hkl
          replace hW := Lib.hid hW; replace hl0 := Lib.hid hl0; replace hl1 := Lib.hid hl1; replace hF4 := Lib.hid hF4; replace hE := Lib.hid hE
          go_wp2_with fail
          go_loopg [5, 9] (m + 1) (fun kk v5 v9 wr => ∃ (e : Nat) (l : List Int), e ≤ m ∧ kk + e = m + 1 ∧ v9 = .int .i64 e ∧ WeI T l k e ∧ NInB (fun b => b ≠ bn) wr v5 l ∧ Fr [] w4 wr)
          case atStart => exact ⟨0, _, by omega, by omega, rfl, hE.out, hl0.out, hF4.out⟩
          have hk30 : k < 30 := by omega
          clear hW hl0 hl1 hF4 hE hlen hkl hklI
          case round =>
            obtain ⟨e, l, he, hk3, rfl, hE, hl, hF4⟩ := hrel
            obtain ⟨we, rfl⟩ : ∃ x : World, x = wr := ⟨_, rfl⟩
            have hl0 := hl
            obtain ⟨o, cl, rfl, hl1⟩ := hl
            have FQ := F4.out.trans hF4
            have k1 := (FQ.pt P2.out (by simp)).cell
            by_cases hlt2 : e < m
            · have hltI2 : (e : Int) < T.ev := by rw [hmI.out]; omega
              have hlt2I : (e : Int) < (m : Int) := by omega
              have hkl := hE.lt
              have hklI : (k : Int) < l.length := by omega
              have hmem := hE.mem _ (List.getElem_mem hkl)
              have hrng := (order_ok hV.out).rng _ hmem
              obtain ⟨a, ha⟩ : ∃ a : Nat, l[k] = (a : Int) := ⟨l[k].toNat, by omega⟩
              have hg : l.getD k 0 = (a : Int) := by rw [← ha, List.getD_eq_getElem?_getD, List.getElem?_eq_getElem hkl]; rfl
              obtain ⟨B1, f1, rfl, hB1, _, x1⟩ := hl1 k hkl
              rw [ha] at x1 hrng hmem
              have hanI : (a : Int) < (i : Int) := by have := hnI.out; omega
              obtain ⟨B2, off2, cap2, hBB, y1, y2, _⟩ := (hR.out.fr (F2.out.trans FQ)).at hV.out hmI.out a e hrng.2 hlt2
              have hE2 := hE.step hV.out hltI2
              rw [hg] at hE2
              have hat := hV.out.atOk hrng.1 hrng.2 (e := (e : Int)) (by omega) hltI2
              have GN : NInB (fun b => b ≠ bn) we.drew _ l := hl0.frq (Fr.refl [] we).drew (fun b _ h => ⟨by simp, h⟩)
              have GF := hF4.drew
              obtain ⟨nx, hnx⟩ : ∃ x, (T.at a e).1 = x := ⟨_, rfl⟩
              rw [hnx] at y2 hE2 hat
              by_cases h0 : 0 ≤ nx
              · rw [if_pos h0] at hE2
                obtain ⟨t, rfl⟩ : ∃ t : Nat, nx = (t : Int) := ⟨nx.toNat, by omega⟩
                have htn : t < i := by have := hnI.out; omega
                have C2 := CM.out we.drew _ l t GF GN hE.toWaI htn
                replace hE := Lib.hid hE; replace hl0 := Lib.hid hl0; replace hl1 := Lib.hid hl1; replace hF4 := Lib.hid hF4; replace FQ := Lib.hid FQ; replace hmem := Lib.hid hmem; replace hrng := Lib.hid hrng; replace ha := Lib.hid ha; replace hg := Lib.hid hg; replace hE2 := Lib.hid hE2; replace hat := Lib.hid hat; replace GN := Lib.hid GN; replace GF := Lib.hid GF; replace hnx := Lib.hid hnx; replace C2 := Lib.hid C2
                go_upto_region 15 with fail
                go_region
                go_wp2_with fail
                refine C2.out.mono ?_
                rintro e2 w6 ⟨v6, rfl, n6, f6⟩
                have G6 := GF.out.trans f6
                replace n6 := Lib.hid n6; replace f6 := Lib.hid f6; replace G6 := Lib.hid G6
                go_wp2_with fail
                go_roundg (gk - 1)
                case measure => omega
                case rel => exact ⟨e + 1, _, by omega, by omega, by go_num, hE2.out, n6.out, G6.out⟩
              · rw [if_neg h0] at hE2
                replace hE := Lib.hid hE; replace hl0 := Lib.hid hl0; replace hl1 := Lib.hid hl1; replace hF4 := Lib.hid hF4; replace FQ := Lib.hid FQ; replace hmem := Lib.hid hmem; replace hrng := Lib.hid hrng; replace ha := Lib.hid ha; replace hg := Lib.hid hg; replace hE2 := Lib.hid hE2; replace hat := Lib.hid hat; replace GN := Lib.hid GN; replace GF := Lib.hid GF; replace hnx := Lib.hid hnx
                go_upto_region 15 with fail
                go_region
                go_wp2_with fail
                go_roundg (gk - 1)
                case measure => omega
                case rel => exact ⟨e + 1, _, by omega, by omega, by go_num, hE2.out, GN.out, GF.out⟩
            · have hltI2 : ¬ (e : Int) < T.ev := by rw [hmI.out]; omega
              have hX := hE.exit hV.out hltI2
              replace hE := Lib.hid hE; replace hl0 := Lib.hid hl0; replace hl1 := Lib.hid hl1; replace hF4 := Lib.hid hF4; replace FQ := Lib.hid FQ; replace hX := Lib.hid hX
              go_wp2_with fail
              go_roundg (go - 1)
              case measure => omega
              case rel => exact ⟨k + 1, _, by omega, by go_num, hX.out, hl0.out, hF4.out⟩
        · as_aux_lemma =>
          have hklI : ¬ (k : Int) < l.length := by omega
          have hRho := hW.rho hV.out hkl
          have hln := hRho.len
          have hN0 := NuOk.start T
          rw [hn.out] at hN0
          have hNo := hF4.pt N4.out (by simp)
          have FQ := F4.out.trans hF4
          replace hW := Lib.hid hW; replace hl0 := Lib.hid hl0; replace hl1 := Lib.hid hl1; replace hF4 := Lib.hid hF4; replace hRho := Lib.hid hRho; replace hln := Lib.hid hln; replace hN0 := Lib.hid hN0; replace hNo := Lib.hid hNo; replace FQ := Lib.hid FQ
          go_wp2_with fail
          go_loopg [11] (i + 1) (fun kk v11 wr => ∃ (s : Nat) (N : List Int), s ≤ i ∧ kk + s = i + 1 ∧ v11 = .int .i64 s ∧ NuOk T N s 0 ∧ Pt wr bn 3 (ints N) ∧ Fr [bn] wo wr)
          case atStart => exact ⟨0, _, by omega, by omega, rfl, hN0.out, hNo.out, Fr.refl _ _⟩
          case round =>
            obtain ⟨s, N, hs, hk3, rfl, hU, hNp, hF5⟩ := hrel
            obtain ⟨ws, rfl⟩ : ∃ x : World, x = wr := ⟨_, rfl⟩
            obtain ⟨gs, rfl⟩ : ∃ g : Nat, g = gk := ⟨_, rfl⟩
            have k1 := (hF5.pt (FQ.out.pt P2.out (by simp)) (by have := lt1.out; simp; omega)).cell
            by_cases hlt2 : s < i
            · have hltI2 : (s : Int) < T.st := by rw [hnI.out]; omega
              have hsI2 : (s : Int) < (i : Int) := by omega
              replace hU := Lib.hid hU; replace hNp := Lib.hid hNp; replace hF5 := Lib.hid hF5
              go_wp2_with fail
              clear k1
              go_loopg [12] (l.length + 1) (fun kk v12 wr => ∃ (q : Nat) (N : List Int), q ≤ l.length ∧ kk + q = l.length + 1 ∧ v12 = .int .i64 q ∧ NuOk T N s q ∧ Pt wr bn 3 (ints N) ∧ Fr [bn] wo wr)
              case atStart => exact ⟨0, _, by omega, by omega, rfl, hU.out, hNp.out, hF5.out⟩
              clear hU hNp hF5
              case round =>
                obtain ⟨q, N, hq, hk4, rfl, hU, hNp, hF5⟩ := hrel
                obtain ⟨wq, rfl⟩ : ∃ x : World, x = wr := ⟨_, rfl⟩
                by_cases hlq : q < l.length
                · have hlqI : (q : Int) < l.length := by omega
                  have hmem := hRho.out.mem _ (List.getElem_mem hlq)
                  have hrng := (order_ok hV.out).rng _ hmem
                  obtain ⟨a, ha⟩ : ∃ a : Nat, l[q] = (a : Int) := ⟨l[q].toNat, by omega⟩
                  obtain ⟨B1, f1, rfl, hB1, hBq, x1⟩ := hl1.out q hlq
                  have x1 := (hF5.cell (p := ⟨B1, f1 + q, none⟩) hB1 (by simpa using hBq)).trans x1
                  rw [ha] at x1 hrng
                  have han : a < i := by have := hnI.out; omega
                  have hanI : (a : Int) < (i : Int) := by omega
                  have hAi := hAp.out a s han hlt2
                  obtain ⟨bq', oq', cq', e9, hbq, y1, z1⟩ := (hM.out.frx ((FQ.out.mono (by simp)).trans hF5 : Fr [bn] w2 wq) (fun x hx => by have := hbn.out; simp at hx; omega)).get a han
                  obtain ⟨⟨rfl, rfl⟩, rfl⟩ : (bq = bq' ∧ oq = oq') ∧ cq = cq' := by simpa using e9
                  replace z1 := z1 s hlt2
                  clear e9
                  cases hm2 : M a s
                  · rw [hm2] at z1 hAi
                    have hU2 := hU.yes hV.out hRho.out hltI2 hlq (by rw [ha]; exact fun h => by have := hAi.mpr h; cases this)
                    have hsl : s < N.length := by have := hU.1; have := hn.out; omega
                    have c9 := ints_get N s hsl
                    rw [← hNp.cell] at c9
                    have z9 := hNp.free s
                    have hNp2 := hNp.set s (.int .i64 (q : Int))
                    rw [ints_set] at hNp2
                    have GF : Fr [bn] wo (wq.setCell ⟨bn, s, none⟩ (.int .i64 (q : Int))) := hF5.setCell (.inl (by simp)) _
                    replace hU := Lib.hid hU; replace hNp := Lib.hid hNp; replace hF5 := Lib.hid hF5; replace hmem := Lib.hid hmem; replace hrng := Lib.hid hrng; replace ha := Lib.hid ha; replace hAi := Lib.hid hAi; replace hm2 := Lib.hid hm2; replace hU2 := Lib.hid hU2; replace hNp2 := Lib.hid hNp2; replace GF := Lib.hid GF; replace hbq := Lib.hid hbq
                    go_wp2_with fail
                    go_roundg (gk - 1)
                    case measure => omega
                    case rel => exact ⟨q + 1, _, by omega, by omega, by go_num, hU2.out, hNp2.out, GF.out⟩
                  · rw [hm2] at z1 hAi
                    have hU2 := hU.no hV.out hRho.out hltI2 hlq (by rw [ha]; exact hAi.mp rfl)
                    replace hU := Lib.hid hU; replace hNp := Lib.hid hNp; replace hF5 := Lib.hid hF5; replace hmem := Lib.hid hmem; replace hrng := Lib.hid hrng; replace ha := Lib.hid ha; replace hAi := Lib.hid hAi; replace hm2 := Lib.hid hm2; replace hU2 := Lib.hid hU2; replace hbq := Lib.hid hbq
                    go_wp2_with fail
                    go_roundg (gk - 1)
                    case measure => omega
                    case rel => exact ⟨q + 1, _, by omega, by omega, by go_num, hU2.out, hNp.out, hF5.out⟩
                · have hlqI : ¬ (q : Int) < l.length := by omega
                  have hU2 := hU.next hV.out (by have := hln.out; omega)
                  replace hU := Lib.hid hU; replace hNp := Lib.hid hNp; replace hF5 := Lib.hid hF5; replace hU2 := Lib.hid hU2
                  go_wp2_with fail
                  go_roundg (gs - 1)
                  case measure => omega
                  case rel => exact ⟨s + 1, _, by omega, by omega, by go_num, hU2.out, hNp.out, hF5.out⟩
            · have hltI2 : ¬ (s : Int) < T.st := by rw [hnI.out]; omega
              obtain rfl : s = i := by omega
              have hnn := hn.out
              have GF : Fr [] w2 ws := FQ.out.step hF5 (fun z hz => .inr (by have := hbn.out; simp at hz; omega))
              have GO : WkR T w (.returned (.tuple #[.slice o l.length cl, .slice (some ⟨bn, 0, none⟩) s s])) ws :=
                ⟨_, l, bn, N, by rw [hnn], (hl0.out.frq hF5 (q' := fun _ => True) (fun b _ h => ⟨by simpa using h, trivial⟩)).nin, hRho.out, hNp, by rw [hnn]; exact hU, F2.out.trans GF⟩
              replace hU := Lib.hid hU; replace hNp := Lib.hid hNp; replace hF5 := Lib.hid hF5; replace GO := Lib.hid GO; replace hnn := Lib.hid hnn; replace GF := Lib.hid GF
              go_wp2_with fail
              refine bodyPost_ret (v := .tuple #[.slice o l.length cl, .slice (some ⟨bn, 0, none⟩) s s]) (by simp [results, Try.results94, go_sem]) rfl GO.out
end Go.Proofs.Ytnggimkkjdipmaa
namespace Go.Proofs.Ytnggimkkjdipmaa
open Go.RowKit
set_option linter.unusedVariables false
set_option linter.unusedSimpArgs false
set_option maxHeartbeats 16000000
set_option maxRecDepth 100000
/-! ### The reference's least -/
/-- The reference's least, half done. -/
structure RlI (w : World) (b3 : Nat) (st ev sr : Int) (rows : List (List (Int × Int))) (wr : World) (i : Nat) (r' : Value) (us : List Value) (bo : Option Nat) : Prop where
  p3 : Pt wr b3 RTab [.int .i64 st, .int .i64 ev, .int .i64 sr, r']
  row : Row 1 wr r' us.length us bo
  len : us.length = i
  out : ∀ z, bo = some z → b3 < z
  pin : ∀ k (h : k < us.length) (h2 : k < rows.length), PInB (fun b => b3 < b ∧ b ∉ bo.toList) wr us[k] rows[k]
  fr : Fr [] w wr
theorem RlI.next {w : World} {b3 : Nat} {st ev sr : Int} {rows : List (List (Int × Int))} {wo wr w6 : World} {i : Nat} {r' v5 v6 : Value} {us : List Value} {bo bo2 bo6 : Option Nat}
    (h : RlI w b3 st ev sr rows wo i r' us bo) (hi : i < rows.length) (hw : w.heap.size ≤ b3) (hF : Fr [] wo wr)
    (hrw : Row 2 wr v5 (rows[i]).length (pcells rows[i]) bo2) (hbo2 : ∀ z, bo2 = some z → wo.heap.size ≤ z)
    (hr6 : Row 1 w6 v6 (us ++ [v5]).length (us ++ [v5]) bo6) (hb6 : bo6 = bo ∨ ∃ z, bo6 = some z ∧ wr.heap.size ≤ z) (f6 : Fr bo.toList wr w6) :
    RlI w b3 st ev sr rows (w6.setCell ⟨b3, 3, none⟩ v6) (i + 1) v6 (us ++ [v5]) bo6 := by
  have l3 := h.p3.lt
  have hsz := hF.size
  have fs : Fr [b3] w6 (w6.setCell ⟨b3, 3, none⟩ v6) := (Fr.refl _ _).setCell (by simp) _
  have FA : Fr (b3 :: bo.toList) wo (w6.setCell ⟨b3, 3, none⟩ v6) := ((hF.mono (by simp)).trans (f6.mono (fun x hx => by simp [hx]))).trans (fs.mono (by simp))
  have hbm : ∀ z ∈ bo.toList, b3 < z ∧ z < wo.heap.size := fun z hz => by
    have hz' : bo = some z := by simpa using hz
    have := h.row
    rw [hz'] at this
    exact ⟨h.out z hz', this.lt⟩
  have hb6' : ∀ z, bo6 = some z → b3 < z := fun z hz => by
    rcases hb6 with e | ⟨z', e, h2⟩
    · exact h.out z (by rw [← e]; exact hz)
    · rw [hz] at e; cases e; omega
  have hnew : ∀ b, b < wr.heap.size → b ∉ bo.toList → b ∉ bo6.toList := fun b hb hn hm => by
    have hm' : bo6 = some b := by simpa using hm
    rcases hb6 with e | ⟨z', e, h2⟩
    · exact hn (by rw [← e]; exact hm)
    · rw [hm'] at e; cases e; omega
  refine ⟨(f6.pt (hF.pt h.p3 (by simp)) (fun hm => ?_)).set' rfl, hr6.fr fs (fun z hz hm => ?_), by rw [List.length_append, h.len]; rfl, hb6', fun k hk hk2 => ?_, ?_⟩
  · have := (hbm _ hm).1; omega
  · have := hb6' z hz
    simp at hm; omega
  · by_cases e : k < us.length
    · rw [List.getElem_append_left e]
      refine (h.pin k e hk2).fr FA (fun b hb hq => ⟨fun hm => ?_, hq.1, hnew b (by omega) hq.2⟩)
      rcases List.mem_cons.mp hm with e2 | e2
      · omega
      · exact hq.2 e2
    · have hki : k = us.length := by simp at hk; omega
      have hki2 : k = i := by rw [hki, h.len]
      subst hki2
      rw [List.getElem_append_right (by omega)]
      have : (us ++ [v5])[k]'hk = v5 := by
        rw [List.getElem_append_right (by omega)]; simp [hki]
      have e5 : [v5][k - us.length]'(by simp at hk; simp; omega) = v5 := by simp
      rw [e5]
      have hp : PInB (fun b => wo.heap.size ≤ b) wr v5 rows[k] := hrw.pinb hbo2
      have FB : Fr (b3 :: bo.toList) wr (w6.setCell ⟨b3, 3, none⟩ v6) := (f6.mono (fun x hx => by simp [hx])).trans (fs.mono (by simp))
      refine hp.fr FB (fun b hb hq => ⟨fun hm => ?_, by omega, hnew b hb (fun hm => ?_)⟩)
      · rcases List.mem_cons.mp hm with e2 | e2
        · omega
        · have := (hbm _ e2).2; omega
      · have := (hbm _ hm).2; omega
  · refine h.fr.step FA (fun x hx => .inr ?_)
    rcases List.mem_cons.mp hx with e | e
    · omega
    · have := (hbm _ e).1; omega
theorem RlI.rinb {w : World} {b3 : Nat} {st ev sr : Int} {rows : List (List (Int × Int))} {wr w' : World} {r' : Value} {us : List Value} {bo : Option Nat}
    (h : RlI w b3 st ev sr rows wr rows.length r' us bo) {b2 : Nat} (h23 : b2 < b3) (hf : Fr [b2] wr w') : RInB (fun b => b3 < b) w' r' rows := by
  have hr := h.row.fr hf (fun z hz hm => by have := h.out z hz; simp at hm; omega)
  have hlen := h.len
  have hp : ∀ k (hk : k < us.length) (hk2 : k < rows.length), PInB (fun b => b3 < b) w' us[k] rows[k] := fun k hk hk2 => ((h.pin k hk hk2).fr hf (fun b _ hq => ⟨fun hm => by have := hq.1; simp at hm; omega, hq.1⟩))
  rcases hr with ⟨_, h2, _, o, rfl⟩ | ⟨b, off, cap, hb, rfl, h3, h4, _, _, h7⟩
  · exact ⟨o, 0, by rw [← hlen, h2], fun i hi => by omega⟩
  · refine ⟨_, cap, by rw [hlen], fun i hi => ⟨b, off, us[i]'(by omega), rfl, h4, h.out b hb, ?_, hp i (by omega) hi⟩⟩
    rw [h7 i (by omega), List.getElem?_eq_getElem (by omega)]
theorem rl_row {T : Tb} (hV : VT T) {m : Nat} (hm : T.ev = (m : Int)) (N : List Int) (a : Nat) (ha : (a : Int) < T.st) : ((T.rows.getD a []).map (rlR N)).length = m ∧ ∀ j (h : j < ((T.rows.getD a []).map (rlR N)).length), ((T.rows.getD a []).map (rlR N))[j] = rlR N (T.at a j) := by
  obtain ⟨_, _, h3⟩ := row_at hV (s := (a : Int)) ⟨by omega, ha⟩
  rw [Int.toNat_natCast] at h3
  refine ⟨by rw [List.length_map]; omega, fun j hj => ?_⟩
  have hj' : j < (T.rows.getD a []).length := by rw [List.length_map] at hj; exact hj
  rw [List.getElem_map]
  congr 1
  unfold Tb.at
  rw [Int.toNat_natCast, Int.toNat_natCast, List.getD_eq_getElem?_getD (i := j), List.getElem?_eq_getElem hj']; rfl
def RlR (T : Tb) (w : World) (e : Ending) (w' : World) : Prop := ∃ r', e = .returned (.agg #[.int .i64 (leastT T).st, .int .i64 (leastT T).ev, .int .i64 (leastT T).sr, r']) ∧ RInB (fun b => w.heap.size ≤ b) w' r' (leastT T).rows ∧ Fr [] w w'
theorem rleast_any (T : Tb) (v : Value) (w : World) (hT : TIn w v T) (hV : VT T) :
    Calls Try.prog 74 #[v] w (RlR T w) := by
  obtain ⟨r, rfl, hR⟩ := hT
  have hst := hV.st; have hev := hV.ev
  obtain ⟨n, hn⟩ : ∃ n : Nat, T.st.toNat = n := ⟨_, rfl⟩
  obtain ⟨m, hm⟩ : ∃ n : Nat, T.ev.toNat = n := ⟨_, rfl⟩
  have hnI : T.st = (n : Int) := by omega
  have hmI : T.ev = (m : Int) := by omega
  have hn30 : n ≤ 30 := by omega
  have hm30 : m ≤ 12 := by omega
  obtain ⟨BB, off, cap, rfl⟩ := hR.addr hV hnI
  rw [show T.val (.slice (some ⟨BB, off, none⟩) n cap) = .agg #[.int .i64 T.st, .int .i64 T.ev, .int .i64 T.sr, .slice (some ⟨BB, off, none⟩) n cap] from rfl]
  obtain ⟨w1, hw1⟩ : ∃ x, w.alloc (.cells #[.int .i64 T.st, .int .i64 T.ev, .int .i64 T.sr, .slice (some ⟨BB, off, none⟩) n cap] RTab) = x := ⟨_, rfl⟩
  have P1 := Pt.newA w RTab #[.int .i64 T.st, .int .i64 T.ev, .int .i64 T.sr, .slice (some ⟨BB, off, none⟩) n cap]
  rw [hw1] at P1
  have F1 : Fr [] w w1 := by rw [← hw1]; exact (Fr.refl [] w).alloc _
  obtain ⟨b1, hb1⟩ : ∃ x, w.heap.size = x := ⟨_, rfl⟩
  rw [hb1] at P1
  obtain ⟨w2, hw2⟩ : ∃ x, w1.alloc (.cells #[.int .i64 0, .int .i64 0, .int .i64 0, .slice none 0 0] RTab) = x := ⟨_, rfl⟩
  have P2 := Pt.newA w1 RTab #[.int .i64 0, .int .i64 0, .int .i64 0, .slice none 0 0]
  rw [hw2] at P2
  have F2 : Fr [] w1 w2 := by rw [← hw2]; exact (Fr.refl [] w1).alloc _
  obtain ⟨b2, hb2⟩ : ∃ x, w1.heap.size = x := ⟨_, rfl⟩
  rw [hb2] at P2
  have WC := rwalk_any T _ w2 ⟨_, rfl, hR.fr (F1.trans F2)⟩ hV
  rw [show T.val (.slice (some ⟨BB, off, none⟩) n cap) = .agg #[.int .i64 T.st, .int .i64 T.ev, .int .i64 T.sr, .slice (some ⟨BB, off, none⟩) n cap] from rfl] at WC
  have Q1 := F2.pt P1 (by simp)
  have k1 := Q1.cell
  have lt12 : b1 < b2 := by have := P1.lt; omega
  replace hR := Lib.hid hR; replace hV := Lib.hid hV; replace WC := Lib.hid WC; replace hn := Lib.hid hn; replace hm := Lib.hid hm; replace hnI := Lib.hid hnI; replace hmI := Lib.hid hmI; replace hst := Lib.hid hst; replace hev := Lib.hid hev; replace P1 := Lib.hid P1; replace F1 := Lib.hid F1; replace P2 := Lib.hid P2; replace F2 := Lib.hid F2; replace Q1 := Lib.hid Q1
  go_enter Try.func74, Try.ntmps74
  go_wp2_with fail
  refine WC.out.mono ?_
  rintro e w3 ⟨lv, l, bn, N, rfl, hl, hRho, hNp, hNu, f3⟩
  rw [hn.out] at hNu ⊢
  have F3 := (F1.out.trans F2.out).trans f3
  have Q1' := f3.pt Q1.out (by simp)
  have Q2' := f3.pt P2.out (by simp)
  clear k1 hb1 hw1 hw2
  replace hb2 := Lib.hid hb2
  have k1 := Q1'.cell
  have hlen := hRho.len
  have hst' : (leastT T).st = (l.length : Int) := by rw [hlen]; rfl
  have hl0 := hl
  obtain ⟨o, cl, rfl, hl1⟩ := hl
  have ln30 : l.length ≤ 30 := by
    have := (mems_ok hV.out).len
    have := hn.out
    omega
  have hrows := rho_rows hV.out hRho (by rw [hn.out]; exact hNu)
  obtain ⟨w4, hw4⟩ : ∃ x, w3.alloc (.cells #[.int .i64 l.length, .int .i64 T.ev, .int .i64 0, .slice none 0 0] RTab) = x := ⟨_, rfl⟩
  have P4 := Pt.newA w3 RTab #[.int .i64 l.length, .int .i64 T.ev, .int .i64 0, .slice none 0 0]
  rw [hw4] at P4
  have F4 : Fr [] w3 w4 := by rw [← hw4]; exact (Fr.refl [] w3).alloc _
  obtain ⟨b3, hb3⟩ : ∃ x, w3.heap.size = x := ⟨_, rfl⟩
  rw [hb3] at P4
  have lt3 : b2 < b3 := by have := Q2'.lt; omega
  have hw34 : w3.heap.size ≤ b3 := by omega
  have I0 : RlI w3 b3 l.length T.ev 0 (leastRows T) w4 0 (.slice none 0 0) [] none := ⟨P4, Row.nil 1 _ none, rfl, by simp, by simp, F4⟩
  have hw4' := hw4
  clear hw4
  replace hw4' := Lib.hid hw4'; replace hb3 := Lib.hid hb3; replace hl0 := Lib.hid hl0; replace hl1 := Lib.hid hl1; replace hRho := Lib.hid hRho; replace hNp := Lib.hid hNp; replace hNu := Lib.hid hNu; replace f3 := Lib.hid f3; replace F3 := Lib.hid F3; replace hlen := Lib.hid hlen; replace hst' := Lib.hid hst'; replace hrows := Lib.hid hrows; replace P4 := Lib.hid P4; replace F4 := Lib.hid F4; replace Q1' := Lib.hid Q1'; replace Q2' := Lib.hid Q2'; replace I0 := Lib.hid I0
  go_wp2_with fail
  rw [hb3.out, hw4'.out]
  go_loopg [6] (l.length + 1) (fun kk v6 wr => ∃ (k : Nat) (r' : Value) (us : List Value) (bo : Option Nat), k ≤ l.length ∧ kk + k = l.length + 1 ∧ v6 = .int .i64 k ∧ RlI w3 b3 l.length T.ev 0 (leastRows T) wr k r' us bo)
  case atStart => exact ⟨0, _, _, _, by omega, by omega, rfl, I0.out⟩
  case round =>
    obtain ⟨k, r', us, bo, hk, hk1, rfl, hI⟩ := hrel
    obtain ⟨wo, rfl⟩ : ∃ x : World, x = wr := ⟨_, rfl⟩
    obtain ⟨go, rfl⟩ : ∃ g : Nat, g = gk := ⟨_, rfl⟩
    have hrl : (leastRows T).length = l.length := by have := congrArg List.length hrows.out; rw [List.length_map] at this; exact this.symm
    have FI := F3.out.trans hI.fr
    by_cases hlt : k < l.length
    · as_aux_lemma =>
      have hltI : (k : Int) < l.length := by omega
      have hmem := hRho.out.mem _ (List.getElem_mem hlt)
      have hrng := (order_ok hV.out).rng _ hmem
      obtain ⟨a, ha⟩ : ∃ a : Nat, l[k] = (a : Int) := ⟨l[k].toNat, by omega⟩
      obtain ⟨B1, f1, rfl, hB1, x1⟩ := hl1.out k hlt
      rw [ha] at x1 hrng hmem
      have hanI : (a : Int) < (n : Int) := by have := hnI.out; omega
      have hrow : (leastRows T)[k]'(by omega) = (T.rows.getD a []).map (rlR N) := by
        have h1 : (leastRows T)[k]? = (l.map (fun s => (T.rows.getD s.toNat []).map (rlR N)))[k]? := by rw [hrows.out]
        rw [List.getElem?_map, List.getElem?_eq_getElem hlt, List.getElem?_eq_getElem (by omega)] at h1
        simp only [Option.map_some, Option.some.injEq, ha, Int.toNat_natCast] at h1
        exact h1
      obtain ⟨hrlen, hrat⟩ := rl_row hV.out hmI.out N a hrng.2
      obtain ⟨row, hrw⟩ : ∃ x, (T.rows.getD a []).map (rlR N) = x := ⟨_, rfl⟩
      rw [hrw] at hrow
      have hrlen2 : row.length = m := by rw [← hrw]; exact hrlen
      have hrat2 : ∀ j (h : j < row.length), row[j] = rlR N (T.at a j) := by
        intro j h
        have h' : j < ((T.rows.getD a []).map (rlR N)).length := by rw [hrw]; exact h
        rw [← hrat j h']
        congr 1
        exact hrw.symm
      have hmem2 := hmem
      clear hrlen hrat
      have x1o := x1
      replace hI := Lib.hid hI; replace hmem := Lib.hid hmem; replace hrng := Lib.hid hrng; replace ha := Lib.hid ha; replace x1o := Lib.hid x1o; replace hrow := Lib.hid hrow; replace hrlen2 := Lib.hid hrlen2; replace hrat2 := Lib.hid hrat2; replace hrw := Lib.hid hrw; replace hrl := Lib.hid hrl; replace FI := Lib.hid FI; replace hmem2 := Lib.hid hmem2
      clear x1
      go_wp2_with fail
      go_loopg [7, 8] (m + 1) (fun kk v7 v8 wi => ∃ (j : Nat) (bo2 : Option Nat), j ≤ m ∧ kk + j = m + 1 ∧ v8 = .int .i64 j ∧ Row 2 wi v7 (row.take j).length (pcells (row.take j)) bo2 ∧ (∀ z, bo2 = some z → wo.heap.size ≤ z) ∧ Fr [] wo wi)
      case atStart => exact ⟨0, none, by omega, by omega, rfl, Row.nil 2 _ none, by simp, Fr.refl _ _⟩
      case round =>
        obtain ⟨j, bo2, hj, hk2, rfl, hr2, hbo2, hF⟩ := hrel
        obtain ⟨wi, rfl⟩ : ∃ x : World, x = wr := ⟨_, rfl⟩
        have FW := hI.out.fr.trans hF
        have F3i := FW
        have k1 := (FW.pt Q1'.out (by simp)).cell
        by_cases hlj : j < m
        · have hljI : (j : Int) < T.ev := by rw [hmI.out]; omega
          have hljM : (j : Int) < (m : Int) := by omega
          obtain ⟨B2, off2, cap2, hBB, y1, y2, y3⟩ := (hR.out.fr (F3.out.trans F3i)).at hV.out hmI.out a j hrng.out.2 hlj
          have x1 := (F3i.cell (p := ⟨B1, f1 + k, none⟩) hB1 (by simp)).trans x1o.out
          have hat := hV.out.atOk hrng.out.1 hrng.out.2 (e := (j : Int)) (by omega) hljI
          have hjr := hrat2.out j (by have := hrlen2.out; omega)
          obtain ⟨⟨nx, ou⟩, hnx⟩ : ∃ x, T.at a j = x := ⟨_, rfl⟩
          rw [hnx] at y2 y3 hat hjr
          dsimp only at y2 y3 hat
          obtain ⟨o7, c7, rfl⟩ := hr2.len
          have hjl : (row.take j).length = j := by rw [List.length_take, hrlen2.out]; omega
          rw [hjl]
          have KW : ∀ W, Fr [] wi W → (W.cell? ⟨b1, 3, none⟩ = some (.slice (some ⟨BB, off, none⟩) n cap) ∧ W.cell? ⟨B1, f1 + k, none⟩ = some (.int .i64 (a : Int)) ∧ W.cell? ⟨BB, off + a, none⟩ = some (.slice (some ⟨B2, off2, none⟩) m cap2) ∧ W.cell? ⟨B2, off2 + j * 2, none⟩ = some (.int .i64 nx) ∧ W.cell? ⟨B2, off2 + j * 2 + 1, none⟩ = some (.int .i64 ou)) := fun W fw => by
            have g := hR.out.fr ((F3.out.trans F3i).trans fw)
            obtain ⟨B2', off2', cap2', hBB', y1', y2', y3'⟩ := g.at hV.out hmI.out a j hrng.out.2 hlj
            rw [(fw.cell (p := ⟨BB, off + a, none⟩) hBB (by simp))] at y1'
            rw [y1] at y1'
            obtain ⟨⟨rfl, rfl⟩, rfl⟩ : (B2 = B2' ∧ off2 = off2') ∧ cap2 = cap2' := by simpa using y1'
            rw [hnx] at y2' y3'
            exact ⟨(fw.pt (FW.pt Q1'.out (by simp)) (by simp)).cell 3, (fw.cell (p := ⟨B1, f1 + k, none⟩) (Nat.lt_of_lt_of_le hB1 F3i.size) (by simp)).trans x1, (fw.cell (p := ⟨BB, off + a, none⟩) hBB (by simp)).trans y1, y2', y3'⟩
          replace hr2 := Lib.hid hr2; replace hbo2 := Lib.hid hbo2; replace hF := Lib.hid hF; replace FW := Lib.hid FW; replace F3i := Lib.hid F3i; replace hat := Lib.hid hat; replace hjr := Lib.hid hjr; replace hnx := Lib.hid hnx; replace hjl := Lib.hid hjl; replace KW := Lib.hid KW
          go_upto_region 10 with fail
          go_region_held3 (fun W => W.cell? ⟨b1, 3, none⟩ = some (.slice (some ⟨BB, off, none⟩) n cap) ∧ W.cell? ⟨B1, f1 + k, none⟩ = some (.int .i64 (a : Int)) ∧ W.cell? ⟨BB, off + a, none⟩ = some (.slice (some ⟨B2, off2, none⟩) m cap2) ∧ W.cell? ⟨B2, off2 + j * 2, none⟩ = some (.int .i64 nx) ∧ W.cell? ⟨B2, off2 + j * 2 + 1, none⟩ = some (.int .i64 ou))
            (first | exact KW.out _ (Fr.refl _ _).drew | exact KW.out _ (((Fr.refl _ _).alloc _).drew) | exact KW.out _ (((Fr.refl _ _).drew).alloc _) | exact KW.out _ (Fr.refl _ _))
            (fail)
          obtain ⟨wx, hwx⟩ : ∃ x, (wi.alloc (.cells #[.int .i64 nx, .int .i64 ou] RRow)).drew = x := ⟨_, rfl⟩
          have P9 : Pt wx wi.heap.size RRow [.int .i64 nx, .int .i64 ou] := by rw [← hwx]; exact (Pt.newA wi RRow #[.int .i64 nx, .int .i64 ou]).drew
          have F9 : Fr [] wi wx := by rw [← hwx]; exact ((Fr.refl [] wi).alloc _).drew
          obtain ⟨q, hq⟩ : ∃ x, wi.heap.size = x := ⟨_, rfl⟩
          rw [hwx, hq]
          rw [hq] at P9
          have hwoq : wo.heap.size ≤ q := by have := hF.out.size; omega
          have k9 := P9.cell
          have z9 := P9.free
          have hr3 := hr2.out.fr F9 (by simp)
          rw [hjl.out] at hr3
          have NEXT : ∀ (w7 : World) (v7 : Value) (y : Int × Int) (bo3 : Option Nat), rlR N (nx, ou) = y → Row 2 w7 v7 (row.take j ++ [y]).length (pcells (row.take j ++ [y])) bo3 → Row 2 w7 v7 (row.take (j + 1)).length (pcells (row.take (j + 1))) bo3 := fun w7 v7 y bo3 hy hr => by
            rw [List.take_succ_eq_append_getElem (by have := hrlen2.out; omega), hjr.out, hy]; exact hr
          clear KW x1 y1 y2 y3 k1
          by_cases h0 : 0 ≤ nx
          · as_aux_lemma =>
            obtain ⟨t, rfl⟩ : ∃ t : Nat, nx = (t : Int) := ⟨nx.toNat, by omega⟩
            have htn : t < N.length := by have := hNu.out.1; have := hn.out; have := hat.out; have := hnI.out; omega
            have htnI : (t : Int) < (n : Int) := by have := hat.out; have := hnI.out; omega
            obtain ⟨y, hy⟩ : ∃ x, gI N t = x := ⟨_, rfl⟩
            have c1 := ((FW.out.trans F9).pt hNp.out (by simp)).cell t
            rw [ints_get N t htn, hy] at c1
            obtain ⟨wy, hwy⟩ : ∃ x, wx.setCell ⟨q, 0, none⟩ (.int .i64 y) = x := ⟨_, rfl⟩
            have Py : Pt wy q RRow [.int .i64 y, .int .i64 ou] := by rw [← hwy]; exact P9.set' rfl
            have Fy : Fr [] wi wy := by rw [← hwy]; exact F9.setCell (.inr (by rw [hq]; exact Nat.le_refl _)) _
            have ky := Py.cell
            have hry : rlR N ((t : Int), ou) = (y, ou) := by unfold rlR; rw [if_pos h0]; dsimp only; rw [hy]
            have hr4 := hr2.out.fr Fy (by simp)
            rw [hjl.out] at hr4
            obtain ⟨v', w7, bo3, happ, hr7, hb7, f7⟩ := (Row.fr' (hr2.out.fr Fy (by simp)) rfl (Fr.refl [] wy) (by simp)).oneRR (by rw [hjl.out]; omega) (y, ou)
            have hr7' := NEXT _ _ _ _ hry hr7
            have hbo3 : ∀ z, bo3 = some z → wo.heap.size ≤ z := fun z hz => by
              rcases hb7 with h | ⟨z', h, h2⟩
              · exact hbo2.out z (by rw [← h]; exact hz)
              · rw [hz] at h; cases h
                have := hF.out.size; have := Fy.size
                omega
            have F7 : Fr [] wo w7 := (hF.out.trans Fy).step f7 (fun z hz => .inr (hbo2.out z (by simpa using hz)))
            rw [hjl.out] at happ
            dsimp only at happ
            clear hr3
            replace hwx := Lib.hid hwx; replace P9 := Lib.hid P9; replace F9 := Lib.hid F9; replace hq := Lib.hid hq; replace hwy := Lib.hid hwy; replace Py := Lib.hid Py; replace Fy := Lib.hid Fy; replace hry := Lib.hid hry; replace hr4 := Lib.hid hr4; replace happ := Lib.hid happ; replace hr7 := Lib.hid hr7; replace hb7 := Lib.hid hb7; replace f7 := Lib.hid f7; replace hr7' := Lib.hid hr7'; replace hbo3 := Lib.hid hbo3; replace F7 := Lib.hid F7; replace NEXT := Lib.hid NEXT; replace hwoq := Lib.hid hwoq; replace hy := Lib.hid hy
            go_upto_region 13 with fail
            rw [hwy.out]
            clear k9 z9 c1
            go_wp2_with (first | (at_builtin; refine wpList_append_run _ rfl _ _ _ rfl rfl rfl happ.out ?_))
            go_roundg (gk - 1)
            case measure => omega
            case rel => exact ⟨j + 1, bo3, by omega, by omega, by go_num, hr7'.out, hbo3.out, F7.out⟩
          · as_aux_lemma =>
            have hry : rlR N (nx, ou) = (nx, ou) := by unfold rlR; rw [if_neg h0]
            obtain ⟨v', w7, bo3, happ, hr7, hb7, f7⟩ := (hr2.out.fr F9 (by simp)).oneRR (by rw [hjl.out]; omega) (nx, ou)
            have hr7' := NEXT _ _ _ _ hry hr7
            have hbo3 : ∀ z, bo3 = some z → wo.heap.size ≤ z := fun z hz => by
              rcases hb7 with h | ⟨z', h, h2⟩
              · exact hbo2.out z (by rw [← h]; exact hz)
              · rw [hz] at h; cases h
                have := hF.out.size; have := F9.size
                omega
            have F7 : Fr [] wo w7 := (hF.out.trans F9).step f7 (fun z hz => .inr (hbo2.out z (by simpa using hz)))
            rw [hjl.out] at happ
            dsimp only at happ
            clear hr3
            replace hwx := Lib.hid hwx; replace P9 := Lib.hid P9; replace F9 := Lib.hid F9; replace hq := Lib.hid hq; replace hry := Lib.hid hry; replace happ := Lib.hid happ; replace hr7 := Lib.hid hr7; replace hb7 := Lib.hid hb7; replace f7 := Lib.hid f7; replace hr7' := Lib.hid hr7'; replace hbo3 := Lib.hid hbo3; replace F7 := Lib.hid F7; replace NEXT := Lib.hid NEXT; replace hwoq := Lib.hid hwoq
            go_wp2_with (first | (at_builtin; refine wpList_append_run _ rfl _ _ _ rfl rfl rfl happ.out ?_))
            go_roundg (gk - 1)
            case measure => omega
            case rel => exact ⟨j + 1, bo3, by omega, by omega, by go_num, hr7'.out, hbo3.out, F7.out⟩
        · as_aux_lemma =>
          have hljI : ¬ (j : Int) < T.ev := by rw [hmI.out]; omega
          have hjr : row.take j = row := List.take_of_length_le (by have := hrlen2.out; omega)
          rw [hjr] at hr2
          have hlen5 := hI.out.len
          obtain ⟨o7, c7, rfl⟩ := hr2.len
          obtain ⟨v6, w6, bo6, happ, hr6, hb6, f6⟩ := (hI.out.row.fr hF (by simp)).oneRRs (by rw [hlen5]; omega) (.slice o7 row.length c7) rfl
          obtain ⟨o6, c6, rfl⟩ := hr6.len
          have p3 := hF.pt hI.out.p3 (by simp)
          have c3 := p3.cell
          have hb3n : b3 ∉ bo.toList := fun hm => by have := hI.out.out b3 (by simpa using hm); omega
          have p36 := f6.pt p3 hb3n
          have c36 := p36.cell
          have z36 := p36.free
          have NX := hI.out.next (by rw [hrl.out]; exact hlt) hw34 hF (by rw [hrow.out]; exact hr2) hbo2 hr6 hb6 f6
          simp only [List.length_append, List.length_cons, List.length_nil, Nat.zero_add] at NX happ
          replace NX := Lib.hid NX; replace happ := Lib.hid happ; replace hr6 := Lib.hid hr6; replace hb6 := Lib.hid hb6; replace f6 := Lib.hid f6; replace p3 := Lib.hid p3; replace p36 := Lib.hid p36; replace hb3n := Lib.hid hb3n; replace hlen5 := Lib.hid hlen5; replace hr2 := Lib.hid hr2; replace hjr := Lib.hid hjr; replace hbo2 := Lib.hid hbo2; replace hF := Lib.hid hF; replace FW := Lib.hid FW; replace F3i := Lib.hid F3i
          go_wp2_with (first | (at_builtin; refine wpList_append_run _ rfl _ _ _ rfl rfl rfl happ.out ?_))
          go_roundg (go - 1)
          case measure => omega
          case rel => exact ⟨k + 1, _, _, _, by omega, by omega, by go_num, NX.out⟩
    · have hltI : ¬ (k : Int) < l.length := by omega
      have hke : k = l.length := by omega
      obtain ⟨oe, ce, rfl⟩ := hI.row.len
      have c2 := (hI.fr.pt Q2'.out (by simp)).cell
      have z2 := (hI.fr.pt Q2'.out (by simp)).free
      have c3 := hI.p3.cell
      subst hke
      have FE : Fr [b2] wo ((((wo.setCell ⟨b2, 0, none⟩ (.int .i64 l.length)).setCell ⟨b2, 1, none⟩ (.int .i64 T.ev)).setCell ⟨b2, 2, none⟩ (.int .i64 0)).setCell ⟨b2, 3, none⟩ (.slice oe us.length ce)) :=
        ((((Fr.refl [b2] wo).setCell (by simp) _).setCell (by simp) _).setCell (by simp) _).setCell (by simp) _
      have hI2 := hI
      rw [← hrl] at hI2
      have RE := (hI2.rinb lt3 FE).fr (Fr.refl [] _) (q' := fun b => w.heap.size ≤ b) (fun b _ hq => ⟨by simp, by have := F3.out.size; omega⟩)
      have FF : Fr [] w _ := (F3.out.trans hI.fr).step FE (fun z hz => .inr (by simp at hz; have := F1.out.size; have := hb2.out; omega))
      have GO : RlR T w (.returned (.agg #[.int .i64 l.length, .int .i64 T.ev, .int .i64 0, .slice oe us.length ce])) _ := ⟨.slice oe us.length ce, by rw [hst'.out]; rfl, RE, FF⟩
      replace hI := Lib.hid hI; replace hI2 := Lib.hid hI2; replace RE := Lib.hid RE; replace FF := Lib.hid FF; replace FE := Lib.hid FE; replace GO := Lib.hid GO; replace FI := Lib.hid FI
      go_wp2_with fail
      refine bodyPost_ret (v := .agg #[.int .i64 l.length, .int .i64 T.ev, .int .i64 0, .slice oe us.length ce]) (by simp [results, Try.results74, go_sem, c2]) rfl GO.out
end Go.Proofs.Ytnggimkkjdipmaa
