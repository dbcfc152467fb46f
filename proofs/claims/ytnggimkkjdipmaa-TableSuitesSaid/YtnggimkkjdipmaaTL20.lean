import Derived.Test.YtnggimkkjdipmaaTL11
import Derived.Test.YtnggimkkjdipmaaMapsR
import Derived.Test.YtnggimkkjdipmaaTB19
import Derived.Test.YtnggimkkjdipmaaTL8
namespace Go.Proofs.Ytnggimkkjdipmaa
open Go.RowKit
set_option linter.unusedVariables false
set_option linter.unusedSimpArgs false
set_option maxHeartbeats 16000000
set_option maxRecDepth 100000
/-! ### Cover: a range over the walk's map -/
theorem uMapW : Try.prog.underlying 114 = some (.map 3 25) := by kernel_rfl
theorem make_wds2 (n : Int) (w : World) (h0 : 0 ≤ n) (h1 : n ≤ 1000) :
    (Instr.makeSlice 53 (.int .i64 n) (.int .i64 n)).run Try.prog w = .ok (.slice (some ⟨w.heap.size, 0, none⟩) n.toNat n.toNat) (w.alloc (.cells (List.replicate n.toNat (Value.slice none 0 0)).toArray 25)) := by
  rw [run_make (P := Try.prog) w 53 25 iWd zWd uWds infoWd (by kernel_rfl) .i64 .i64 n n h0 (by omega) (by rw [bytesWd]; omega) (by omega)]
  congr 3
  rw [show iWd.size = 1 by kernel_rfl, show zWd.cells = #[.slice none 0 0] by kernel_rfl]
  unfold madeCells
  apply Array.ext
  · simp
  · intro i h1 h2
    simp [Nat.mod_one]
structure CvI (L : List (Int × List Int)) (n : Nat) (w : World) (bm rb bo : Nat) (M todo : List (Int × Value)) (wr : World) (us : List Value) : Prop where
  mr : MapR intK wr bm rb M todo
  sub : ∀ p ∈ todo, p ∈ M
  nd : (todo.map (·.1)).Nodup
  po : Pt wr bo 25 us
  ln : us.length = n
  ws : ∀ s (h : s < us.length), NInB (fun b => b ≠ bo ∧ b ≠ rb) wr us[s] (if (s : Int) ∈ todo.map (·.1) then [] else lookW L s)
  fr : Fr [bo, rb] w wr
  ne : bo ≠ rb
  nm : bo ≠ bm
theorem CvI.step {L : List (Int × List Int)} {n : Nat} {w : World} {bm rb bo : Nat} {M todo todo' : List (Int × Value)} {wr w1 : World} {us : List Value} (h : CvI L n w bm rb bo M todo wr us) {k : Int} {v : Value} {t : Nat} (hk : k = (t : Int))
    (hp : todo.Perm ((k, v) :: todo')) (hmr : MapR intK w1 bm rb M todo') (hf : Fr [rb] wr w1) (hv : NInB (fun b => b ≠ bo ∧ b ≠ rb) w v (lookW L k)) :
    CvI L n w bm rb bo M todo' (w1.setCell ⟨bo, t, none⟩ v) (us.set t v) := by
  subst hk
  have fs : Fr [bo] w1 (w1.setCell ⟨bo, t, none⟩ v) := (Fr.refl _ _).setCell (.inl (by simp)) _
  have FF : Fr [bo, rb] wr (w1.setCell ⟨bo, t, none⟩ v) := (hf.mono (by simp)).trans (fs.mono (by simp))
  have hmem : ∀ x, x ∈ todo ↔ x = ((t : Int), v) ∨ x ∈ todo' := fun x => by rw [hp.mem_iff, List.mem_cons]
  have hkp : (todo.map (·.1)).Perm ((t : Int) :: todo'.map (·.1)) := hp.map (·.1)
  have hnd : ((t : Int) :: todo'.map (·.1)).Nodup := hkp.nodup h.nd
  have hnd2 := List.nodup_cons.mp hnd
  refine ⟨hmr.fr fs (by have := h.nm; simp; omega) (by have := h.ne; simp; omega), fun p hp' => h.sub p ((hmem p).mpr (.inr hp')), hnd2.2, (hf.pt h.po (by have := h.ne; simp; omega)).set t v, by rw [List.length_set]; exact h.ln, fun s hs => ?_, h.fr.trans FF, h.ne, h.nm⟩
  have hs' : s < us.length := by rw [List.length_set] at hs; exact hs
  by_cases e : s = t
  · subst e
    rw [List.getElem_set_self, if_neg hnd2.1]
    exact (hv.frq (h.fr.trans FF) (fun b _ hq => ⟨by simp; exact ⟨hq.1, hq.2⟩, hq⟩))
  · rw [List.getElem_set_ne (fun e' => e e'.symm)]
    have he : ((s : Int) ∈ todo.map (·.1)) ↔ ((s : Int) ∈ todo'.map (·.1)) := by
      rw [hkp.mem_iff, List.mem_cons]
      constructor
      · rintro (h | h)
        · omega
        · exact h
      · exact .inr
    have h9 := h.ws s hs'
    by_cases hm : (s : Int) ∈ todo.map (·.1)
    · rw [if_pos hm] at h9
      rw [if_pos (he.mp hm)]
      exact h9.frq FF (fun b _ hq => ⟨by simp; exact ⟨hq.1, hq.2⟩, hq⟩)
    · rw [if_neg hm] at h9
      rw [if_neg (fun h => hm (he.mpr h))]
      exact h9.frq FF (fun b _ hq => ⟨by simp; exact ⟨hq.1, hq.2⟩, hq⟩)
theorem CvI.end {T : Tb} {n : Nat} {w : World} {bm rb bo : Nat} {M : List (Int × Value)} {wr : World} {us : List Value} (h : CvI (walkT T) n w bm rb bo M [] wr us) (hn : T.st = (n : Int)) (hn1 : 1 ≤ n) : SIn wr (.slice (some ⟨bo, 0, none⟩) n n) (coverL T) := by
  have hcl : (coverL T).length = n := by unfold coverL; simp [hn]
  refine ⟨_, n, by rw [hcl], fun i hi => ?_⟩
  have hi' : i < us.length := by rw [h.ln]; omega
  refine ⟨bo, 0, us[i], rfl, h.po.lt, ?_, ?_⟩
  · rw [Nat.zero_add, h.po.cell, List.getElem?_eq_getElem hi']
  · have := (h.ws i hi').nin
    have e : (coverL T)[i] = lookW (walkT T) i := by simp [coverL]
    rw [e]
    simpa using this
def CvR (L : List (List Int)) (s : Int) (w : World) (e : Ending) (w' : World) : Prop := ∃ v', e = .returned (.tuple #[v', .int .i64 s]) ∧ SIn w' v' L ∧ Fr [] w w'
theorem Cover_any (T : Tb) (v : Value) (w : World) (hT : TIn w v T) :
    Calls Try.prog 41 #[v] w (CvR (coverF T).1 (coverF T).2 w) := by
  obtain ⟨r, rfl, hR⟩ := hT
  rw [show T.val r = .agg #[.int .i64 T.st, .int .i64 T.ev, .int .i64 T.sr, r] from rfl]
  have VA : ∀ W, Fr [] w W → Calls Try.prog 19 #[.agg #[.int .i64 T.st, .int .i64 T.ev, .int .i64 T.sr, r]] W fun e w' => e = .returned (.bool (validT T)) ∧ Fr [] W w' := fun W f => valid_any T _ W ⟨r, rfl, hR.fr f⟩
  obtain ⟨⟨X, z⟩, hX⟩ : ∃ x, coverF T = x := ⟨_, rfl⟩
  rw [hX]
  dsimp only
  obtain ⟨w1, hw1⟩ : ∃ x, w.alloc (.cells #[.int .i64 T.st, .int .i64 T.ev, .int .i64 T.sr, r] TTab) = x := ⟨_, rfl⟩
  have P1 := Pt.newA w TTab #[.int .i64 T.st, .int .i64 T.ev, .int .i64 T.sr, r]
  rw [hw1] at P1
  have F1 : Fr [] w w1 := by rw [← hw1]; exact (Fr.refl [] w).alloc _
  obtain ⟨b1, hb1⟩ : ∃ x, w.heap.size = x := ⟨_, rfl⟩
  rw [hb1] at P1
  have k1 := P1.cell
  replace hR := Lib.hid hR; replace VA := Lib.hid VA; replace hX := Lib.hid hX; replace P1 := Lib.hid P1; replace F1 := Lib.hid F1
  go_enter Try.func41, Try.ntmps41
  go_wp2_with fail
  refine (VA.out _ F1.out).mono ?_
  rintro e w4 ⟨rfl, f4⟩
  have F4 := F1.out.trans f4
  have p1 := f4.pt P1.out (by simp)
  clear k1 hb1 hw1
  cases hv : validT T
  · have hx := hX.out
    unfold coverF at hx
    rw [hv] at hx
    obtain ⟨rfl, rfl⟩ : [] = X ∧ 1 = z := by simpa using hx
    clear hx
    have GO : CvR [] 1 w (.returned (.tuple #[.slice none 0 0, .int .i64 1])) w4 := ⟨_, rfl, ⟨none, 0, rfl, fun i hi => by simp at hi⟩, F4⟩
    replace hv := Lib.hid hv; replace F4 := Lib.hid F4; replace f4 := Lib.hid f4; replace p1 := Lib.hid p1; replace GO := Lib.hid GO
    go_wp2_with fail
    refine bodyPost_ret (v := .tuple #[.slice none 0 0, .int .i64 1]) (by simp [results, Try.results41, go_sem]) rfl GO.out
  · have hV := (validT_iff T).mp hv
    have hx := hX.out
    unfold coverF at hx
    rw [hv, if_pos rfl] at hx
    obtain ⟨hx1, rfl⟩ : coverL (leastT T) = X ∧ 0 = z := by simpa using hx
    have LE := least_own T _ w4 ⟨r, rfl, hR.out.fr F4⟩ hV
    have hLV := least_valid hV
    obtain ⟨M0, hM0⟩ : ∃ x, leastT T = x := ⟨_, rfl⟩
    rw [hM0] at LE hLV hx1
    have WE : ∀ r' W, RIn W r' M0.rows → Calls Try.prog 75 #[.agg #[.int .i64 M0.st, .int .i64 M0.ev, .int .i64 M0.sr, r']] W fun e w' => ∃ r bt bm ov bo M, e = .returned (.tuple #[ov, .map (some bm)]) ∧ WkI M0 W bt bm r (walkT M0) w' ov bo M ∧ WOk M0 (walkT M0) := fun r' W h => walk_any M0 _ W ⟨r', rfl, h⟩ hLV
    obtain ⟨n, hn⟩ : ∃ n : Nat, M0.st.toNat = n := ⟨_, rfl⟩
    have hst := hLV.st
    have hnI : M0.st = (n : Int) := by omega
    have hn30 : n ≤ 30 := by omega
    have hn1 : 1 ≤ n := by omega
    have c1 := p1.cell
    clear hx hX
    replace hv := Lib.hid hv; replace hV := Lib.hid hV; replace hx1 := Lib.hid hx1; replace F4 := Lib.hid F4; replace f4 := Lib.hid f4; replace p1 := Lib.hid p1; replace LE := Lib.hid LE; replace WE := Lib.hid WE; replace hn := Lib.hid hn; replace hnI := Lib.hid hnI; replace hst := Lib.hid hst; replace hLV := Lib.hid hLV; replace hM0 := Lib.hid hM0
    go_wp2_with fail
    refine LE.out.mono ?_
    rintro e w7 ⟨rv, rfl, ⟨hRB, us0, bo0, hRw, hul, hbo⟩, f7⟩
    have F7 := F4.out.trans f7
    have hRI := hRB.rin
    obtain ⟨orv, crv, hrv, _⟩ := hRI
    rw [show M0.rows.length = n by have := hLV.out.rows; have := hnI.out; omega] at hrv
    subst hrv
    obtain ⟨w8, hw8⟩ : ∃ x, w7.alloc (.cells #[.int .i64 M0.st, .int .i64 M0.ev, .int .i64 M0.sr, .slice orv n crv] TTab) = x := ⟨_, rfl⟩
    have P8 := Pt.newA w7 TTab #[.int .i64 M0.st, .int .i64 M0.ev, .int .i64 M0.sr, .slice orv n crv]
    rw [hw8] at P8
    have F8 : Fr [] w7 w8 := by rw [← hw8]; exact (Fr.refl [] w7).alloc _
    obtain ⟨b8, hb8⟩ : ∃ x, w7.heap.size = x := ⟨_, rfl⟩
    rw [hb8] at P8
    have C3 := WE.out (.slice orv n crv) w8 (hRB.rin.fr F8)
    have k8 := P8.cell
    clear c1 hul hbo hRw
    replace hRB := Lib.hid hRB; replace f7 := Lib.hid f7; replace F7 := Lib.hid F7; replace C3 := Lib.hid C3; replace P8 := Lib.hid P8; replace F8 := Lib.hid F8
    go_wp2_with fail
    refine C3.out.mono ?_
    rintro e w9 ⟨r9, bt, bm, ov, bo9, M, rfl, hK, hO⟩
    have F9 := (F7.out.trans F8.out).trans hK.fr
    have P9 := hK.fr.pt P8.out (by simp)
    clear k8 hb8 hw8
    have k9 : w9.cell? ⟨b8, 0, none⟩ = some (.int .i64 M0.st) := P9.cell 0
    have hmk := make_wds2 M0.st w9 (by have := hst.out; omega) (by have := hst.out; omega)
    rw [hn.out] at hmk
    obtain ⟨w10, hw10⟩ : ∃ x, w9.alloc (.cells (List.replicate n (Value.slice none 0 0)).toArray 25) = x := ⟨_, rfl⟩
    have P10 := Pt.new w9 25 (List.replicate n (Value.slice none 0 0))
    have F10 : Fr [] w9 w10 := by rw [← hw10]; exact (Fr.refl [] w9).alloc _
    obtain ⟨bo, hbo⟩ : ∃ x, w9.heap.size = x := ⟨_, rfl⟩
    rw [hw10, hbo] at hmk P10
    have hMK := hK.mp.fr F10 (by simp)
    replace hK := Lib.hid hK; replace hO := Lib.hid hO; replace F9 := Lib.hid F9; replace P9 := Lib.hid P9; replace F10 := Lib.hid F10; replace P10 := Lib.hid P10
    go_wp2_with (first
      | (at_range; refine wpList_range_k _ rfl _ 114 rfl 3 25 uMapW bm intK M rfl hMK ?_; intro w11 hMR f11)
      | go_in)
    go_frame
    obtain ⟨rb, hrb⟩ : ∃ x, w10.heap.size = x := ⟨_, rfl⟩
    rw [hrb] at hMR ⊢
    have s10 := P10.out.lt
    have hkeys := hK.out.keys
    have hKL : M.length = (walkT M0).length := by have := congrArg List.length hkeys; simpa using this
    have VAL : ∀ p ∈ M, NInB (fun b => b ≠ bo ∧ b ≠ rb) w11 p.2 (lookW (walkT M0) p.1) := fun p hp => by
      obtain ⟨k, hk, rfl⟩ := List.getElem_of_mem hp
      have hk2 : k < (walkT M0).length := by omega
      have e1 : M[k].1 = (walkT M0)[k].1 := by
        have h1 : (M.map (·.1))[k]? = ((walkT M0).map (·.1))[k]? := by rw [hkeys]
        rw [List.getElem?_map, List.getElem?_map, List.getElem?_eq_getElem hk, List.getElem?_eq_getElem hk2] at h1
        simpa using h1
      rw [e1, lookW_at _ k hk2 hO.out.nd]
      exact (hK.out.val k hk hk2).frq (F10.out.trans f11) (fun b hb _ => ⟨by simp, by omega, by omega⟩)
    have RNG : ∀ p ∈ M, 0 ≤ p.1 ∧ p.1 < M0.st := fun p hp => by
      have : p.1 ∈ (walkT M0).map (·.1) := by rw [← hkeys]; exact List.mem_map.mpr ⟨p, hp, rfl⟩
      obtain ⟨x, hx, e⟩ := List.mem_map.mp this
      rw [← e]; exact hO.out.rng x hx
    have hnm : bo ≠ bm := by have := hMK.lt; have := hK.out.mp.lt; omega
    have I0 : CvI (walkT M0) n w11 bm rb bo M M w11 (List.replicate n (Value.slice none 0 0)) := by
      refine ⟨hMR, fun p hp => hp, by rw [hkeys]; exact hO.out.nd, f11.pt P10.out (by simp), by simp, fun s hs => ?_, Fr.refl _ _, by omega, hnm⟩
      have e0 : (if (s : Int) ∈ M.map (·.1) then [] else lookW (walkT M0) s) = [] := by
        by_cases h : (s : Int) ∈ M.map (·.1)
        · rw [if_pos h]
        · rw [if_neg h]; exact lookW_none _ _ (by rw [hkeys] at h; exact h)
      rw [List.getElem_replicate]
      rw [e0]
      exact ⟨none, 0, rfl, fun i hi => by simp at hi⟩
    have F11 := F9.out.trans (F10.out.trans f11)
    have hFbo : w.heap.size ≤ bo ∧ w.heap.size ≤ rb := by have := F9.out.size; omega
    clear hMK hMR hmk k9 hw10
    replace hrb := Lib.hid hrb; replace hbo := Lib.hid hbo; replace VAL := Lib.hid VAL; replace RNG := Lib.hid RNG; replace I0 := Lib.hid I0; replace F11 := Lib.hid F11; replace f11 := Lib.hid f11; replace hkeys := Lib.hid hkeys; replace hKL := Lib.hid hKL; replace hnm := Lib.hid hnm; replace hFbo := Lib.hid hFbo
    go_loopg [8] (M.length + 1) (fun kk v8 wr => ∃ (todo : List (Int × Value)) (us : List Value), kk = todo.length + 1 ∧ CvI (walkT M0) n w11 bm rb bo M todo wr us)
    case atStart => exact ⟨M, _, rfl, I0.out⟩
    case round =>
      obtain ⟨todo, us, hk, hI⟩ := hrel
      obtain ⟨wi, rfl⟩ : ∃ x : World, x = wr := ⟨_, rfl⟩
      have hMR := hI.mr
      replace hI := Lib.hid hI
      go_wp2_with (first
        | (at_next; refine wpList_next_k _ rfl _ rfl bm rb intK M todo rfl hMR ?_ ?_)
        | go_in)
      · intro h0
        subst h0
        have GO : CvR X 0 w (.returned (.tuple #[.slice (some ⟨bo, 0, none⟩) n n, .int .i64 0])) wi := ⟨_, rfl, by rw [← hx1.out]; exact hI.out.end hnI.out hn1, F11.out.step hI.out.fr (fun z hz => .inr (by have := hFbo.out; simp at hz; omega))⟩
        clear hMR
        replace GO := Lib.hid GO
        go_wp2_with fail
        refine bodyPost_ret (v := .tuple #[.slice (some ⟨bo, 0, none⟩) n n, .int .i64 0]) (by simp [results, Try.results41, go_sem]) rfl GO.out
      · intro k v todo' w1 hp hmr hf hen
        have hpm : (k, v) ∈ M := hI.out.sub _ (hp.mem_iff.mpr (by simp))
        have hvv := VAL.out _ hpm
        have hrg := RNG.out _ hpm
        dsimp only at hvv hrg
        obtain ⟨t, rfl⟩ : ∃ t : Nat, k = (t : Int) := ⟨k.toNat, by omega⟩
        have htn : (t : Int) < (n : Int) := by have := hnI.out; omega
        have NX := hI.out.step rfl hp hmr hf hvv
        have hlen := hp.length_eq
        obtain ⟨ov2, cv2, rfl, _⟩ := hvv
        have po := hf.pt hI.out.po (by have := hI.out.ne; simp; omega)
        have co := po.cell t
        rw [List.getElem?_eq_getElem (by rw [hI.out.ln]; omega)] at co
        have zo := po.free t
        have hen2 : (Instr.entry (.pointer (some ⟨rb, 0, none⟩))).run Try.prog w1 = .ok (.tuple #[.int .i64 (t : Int), .slice ov2 (lookW (walkT M0) (t : Int)).length cv2]) w1 := hen
        obtain ⟨ln, hln⟩ : ∃ x, (lookW (walkT M0) (t : Int)).length = x := ⟨_, rfl⟩
        rw [hln] at hen2 NX ⊢
        clear hen hMR
        simp only [intK]
        replace NX := Lib.hid NX; replace hp := Lib.hid hp; replace hmr := Lib.hid hmr; replace hf := Lib.hid hf; replace hpm := Lib.hid hpm; replace hrg := Lib.hid hrg; replace hlen := Lib.hid hlen; replace po := Lib.hid po; replace hln := Lib.hid hln
        go_wp2_with fail
        go_roundg (todo'.length + 1)
        case measure => have := hlen.out; simp at this; omega
        case rel => exact ⟨todo', _, rfl, NX.out⟩
end Go.Proofs.Ytnggimkkjdipmaa
