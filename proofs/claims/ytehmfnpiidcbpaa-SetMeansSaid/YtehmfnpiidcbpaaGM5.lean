import Derived.Test.YtehmfnpiidcbpaaGM3
import Derived.Test.YtehmfnpiidcbpaaGP4
import Derived.Test.YtehmfnpiidcbpaaGN4
import Derived.Deep.CutRange
import Derived.Deep.CutBlock
namespace Go.Proofs.Ytehmfnpiidcbpaa
open Go.RowKit
set_option linter.unusedVariables false
set_option linter.unusedSimpArgs false
set_option maxHeartbeats 16000000
set_option maxRecDepth 100000
/-! ### root -/
structure RoI (w : World) (t r0 b1 : Nat) (n : Nd) (o : Option Addr) (K cap : Nat) (i : Nat) (ks : List (Nd × Value)) (wr : World) (v : Value) (bo : Option Nat) : Prop where
  eq : ks.map Prod.fst = (n.kids.take i).map Nd.rt
  kid : KidI t ks wr v bo
  p1 : Pt wr b1 46 [.int .i64 n.op, .int .i64 n.lo, .int .i64 n.hi, .slice o K cap]
  p0 : Pt wr r0 46 [.int .i64 0, .int .i64 0, .int .i64 0, .slice none 0 0]
  fr : Fr [] w wr
  sz : t ≤ wr.heap.size
theorem RoI.next {w : World} {t r0 b1 : Nat} {n : Nd} {o : Option Addr} {K cap i : Nat} {ks : List (Nd × Value)} {wr : World} {v : Value} {bo : Option Nat} (I : RoI w t r0 b1 n o K cap i ks wr v bo) (hr : w.heap.size ≤ b1 ∧ b1 < r0 ∧ r0 < t) (hi : i < n.kids.length) (hn : n.kids.length ≤ 100000) {W : World} (hf : Fr [] wr W) {s : Value} (hs : NIn (fun z => wr.heap.size ≤ z) W n.kids[i].rt (ndV n.kids[i].rt s)) :
    ∃ v' w' bo', (Builtin.append_ #[44, 44] 44 #[v, .slice (some ⟨W.heap.size, 0, none⟩) 1 1]).run Try.prog (W.alloc (.cells #[.int .i64 n.kids[i].rt.op, .int .i64 n.kids[i].rt.lo, .int .i64 n.kids[i].rt.hi, s] 46)) = .ok v' w' ∧ RoI w t r0 b1 n o K cap (i + 1) (ks ++ [(n.kids[i].rt, s)]) w' v' bo' := by
  obtain ⟨h0, h1, h2⟩ := hr
  have hlen : ks.length = i := by have := congrArg List.length I.eq; rw [List.length_map, List.length_map, List.length_take] at this; omega
  obtain ⟨v', w', bo', e1, e2, e3⟩ := I.kid.put I.sz (by omega) hf hs
  have hne : ∀ x, x < t → x ∉ bo.toList := fun x hx hm => by have := I.kid.new x (by simpa using hm); omega
  refine ⟨v', w', bo', e1, ?_, e2, e3.pt (hf.pt I.p1 (by simp)) (hne b1 (by omega)), e3.pt (hf.pt I.p0 (by simp)) (hne r0 (by omega)), ?_, ?_⟩
  · rw [List.map_append, I.eq, List.take_succ_eq_append_getElem hi, List.map_append]; rfl
  · exact (I.fr.trans hf).step e3 (fun z hz => .inr (by have := I.kid.new z (by simpa using hz); omega))
  · have := I.sz; have := hf.size; have := e3.size; omega
theorem root_any : ∀ (M : Nat) (n : Nd) (w : World) (v : Value), n.nodes ≤ M → M ≤ 100000 → n.sh = true → NI w n v →
    Calls Try.prog 46 #[v] w (NodR n.rt w)
  | 0, n, w, v, hN, _, _, _ => by have := nodes_pos n; omega
  | M + 1, n, w, v, hN, hM, hs, hv => by
    have ih := fun (i : Nat) (hi : i < n.kids.length) W s (h : NI W n.kids[i] s) => root_any M n.kids[i] W s (by have := kid_lt hi; omega) (by omega) (sh_kid hs (List.getElem_mem hi)) h
    obtain ⟨o, cap, rfl, hl⟩ := hv.open
    have e3 := nodesL_len n.kids
    have e4 := n.nodes_eq
    obtain ⟨K, hK⟩ : ∃ x, n.kids.length = x := ⟨_, rfl⟩
    have hKb : K ≤ 100000 := by omega
    rw [hK]
    have h5k : n.op = 5 → 0 < n.kids.length := fun h => by
      have hk := (sh_kids hs (by omega)).1
      unfold kidsOk at hk
      rw [if_neg (by omega), if_neg (by omega), if_neg (by omega), if_pos h] at hk
      have := of_decide_eq_true hk; omega
    clear hv hN hM e3 e4
    obtain ⟨w1, hw1⟩ : ∃ x, w.alloc (.cells #[.int .i64 n.op, .int .i64 n.lo, .int .i64 n.hi, .slice o K cap] 46) = x := ⟨_, rfl⟩
    have P1 := Pt.newA w 46 #[.int .i64 n.op, .int .i64 n.lo, .int .i64 n.hi, .slice o K cap]
    rw [hw1] at P1
    have F1 : Fr [] w w1 := by rw [← hw1]; exact (Fr.refl [] w).alloc _
    obtain ⟨b1, hb1⟩ : ∃ x, w.heap.size = x := ⟨_, rfl⟩
    rw [hb1] at P1
    obtain ⟨w2, hw2⟩ : ∃ x, w1.alloc (.cells #[.int .i64 0, .int .i64 0, .int .i64 0, .slice none 0 0] 46) = x := ⟨_, rfl⟩
    have P0 := Pt.newA w1 46 #[.int .i64 0, .int .i64 0, .int .i64 0, .slice none 0 0]
    rw [hw2] at P0
    have F2 : Fr [] w1 w2 := by rw [← hw2]; exact (Fr.refl [] w1).alloc _
    obtain ⟨r0, hr0⟩ : ∃ x, w1.heap.size = x := ⟨_, rfl⟩
    rw [hr0] at P0
    obtain ⟨t, ht⟩ : ∃ t, w2.heap.size = t := ⟨_, rfl⟩
    have hord : w.heap.size ≤ b1 ∧ b1 < r0 ∧ r0 < t := by
      have q0 := P0.lt; have q1 := P1.lt; omega
    have I0 : RoI w t r0 b1 n o K cap 0 [] w2 (.slice none 0 0) none := ⟨rfl, KidI.nil _ _ _, F2.pt P1 (by simp), P0, F1.trans F2, by omega⟩
    have G2 := F1.trans F2
    have R5 := fun h => @rt_5 n h
    have RE := @rt_else n
    obtain ⟨op, hop⟩ : ∃ x, n.op = x := ⟨_, rfl⟩
    obtain ⟨lo, hlo⟩ : ∃ x, n.lo = x := ⟨_, rfl⟩
    obtain ⟨hi, hhi⟩ : ∃ x, n.hi = x := ⟨_, rfl⟩
    rw [hop] at h5k R5 RE
    rw [hop, hlo, hhi] at hw1 P1 ⊢
    have Q1 := F2.pt P1 (by simp)
    have k1 := Q1.cell
    have k0 := P0.cell
    have z0 := P0.free
    have z1 := Q1.free
    have n01 : r0 ≠ b1 := by omega
    by_cases h5 : op = 5
    · as_aux_lemma =>
      subst h5
      have hil := h5k rfl
      have eR := R5 rfl hil
      rw [eR]
      have hJ : (0 : Int) < (K : Int) := by omega
      have hJn : 0 < K := by omega
      replace hl := Lib.hid hl
      obtain ⟨B, off, s, hoB, hB, _, a1, a2, a3, a4, hkid⟩ := hl.out (0) hil
      have x1 := G2.cell (p := ⟨B, off + (0) * 4, none⟩) hB (by simp)
      have x2 := G2.cell (p := ⟨B, off + (0) * 4 + 1, none⟩) hB (by simp)
      have x3 := G2.cell (p := ⟨B, off + (0) * 4 + 2, none⟩) hB (by simp)
      have x4 := G2.cell (p := ⟨B, off + (0) * 4 + 3, none⟩) hB (by simp)
      rw [a1] at x1
      rw [a2] at x2
      rw [a3] at x3
      rw [a4] at x4
      clear a1 a2 a3 a4
      subst hoB
      obtain ⟨so, sL, sc, rfl⟩ := hkid.sl
      obtain ⟨kop, hkop⟩ : ∃ x, n.kids[0].op = x := ⟨_, rfl⟩
      obtain ⟨klo, hklo⟩ : ∃ x, n.kids[0].lo = x := ⟨_, rfl⟩
      obtain ⟨khi, hkhi⟩ : ∃ x, n.kids[0].hi = x := ⟨_, rfl⟩
      rw [hkop] at x1 hkid
      rw [hklo] at x2 hkid
      rw [hkhi] at x3 hkid
      simp only [Nat.zero_mul, Nat.add_zero] at x1 x2 x3 x4
      have C := ih 0 hil w2 _ (hkid.go G2)
      obtain ⟨R, hR⟩ : ∃ R, n.kids[0].rt = R := ⟨_, rfl⟩
      rw [hR] at C ⊢
      clear h5k R5 RE eR
      replace ih := Lib.hid ih; replace hK := Lib.hid hK; replace P1 := Lib.hid P1; replace F1 := Lib.hid F1; replace P0 := Lib.hid P0; replace F2 := Lib.hid F2; replace ht := Lib.hid ht; replace hord := Lib.hid hord; replace I0 := Lib.hid I0; replace hop := Lib.hid hop; replace hlo := Lib.hid hlo; replace hhi := Lib.hid hhi; replace G2 := Lib.hid G2; replace Q1 := Lib.hid Q1; replace hkop := Lib.hid hkop; replace hklo := Lib.hid hklo; replace hkhi := Lib.hid hkhi; replace hkid := Lib.hid hkid; replace C := Lib.hid C; replace hR := Lib.hid hR; replace hs := Lib.hid hs
      go_enter Try.func46, Try.ntmps46
      go_wp2_with fail
      refine (C.out).mono ?_
      rintro e w3 ⟨s3, rfl, n3, f3⟩
      obtain ⟨o3, L3, c3, rfl⟩ := n3.sl
      have P03 := f3.pt P0.out (by simp)
      have k03 := P03.cell
      have z03 := P03.free
      obtain ⟨Rop, hRop⟩ : ∃ x, R.op = x := ⟨_, rfl⟩
      obtain ⟨Rlo, hRlo⟩ : ∃ x, R.lo = x := ⟨_, rfl⟩
      obtain ⟨Rhi, hRhi⟩ : ∃ x, R.hi = x := ⟨_, rfl⟩
      unfold ndV at n3 ⊢
      rw [hRop, hRlo, hRhi] at n3 ⊢
      obtain ⟨G, hG⟩ : ∃ G, (((w3.setCell ⟨r0, 0, none⟩ (.int .i64 Rop)).setCell ⟨r0, 1, none⟩ (.int .i64 Rlo)).setCell ⟨r0, 2, none⟩ (.int .i64 Rhi)).setCell ⟨r0, 3, none⟩ (.slice o3 L3 c3) = G := ⟨_, rfl⟩
      have FG : Fr [r0] w3 G := by
        rw [← hG]
        exact ((((Fr.refl [r0] w3).setCell (by simp) _).setCell (by simp) _).setCell (by simp) _).setCell (by simp) _
      have PG : Pt G r0 46 [.int .i64 Rop, .int .i64 Rlo, .int .i64 Rhi, .slice o3 L3 c3] := by
        rw [← hG]
        exact (((P03.set' rfl).set' rfl).set' rfl).set' rfl
      have NG : NIn (fun z => w.heap.size ≤ z) G R (.agg #[.int .i64 Rop, .int .i64 Rlo, .int .i64 Rhi, .slice o3 L3 c3]) := n3.fr FG (fun b hb hq => by have := hord.out; have := ht.out; exact ⟨by simp; omega, by omega⟩)
      have GO : NodR R w (.returned (.agg #[.int .i64 Rop, .int .i64 Rlo, .int .i64 Rhi, .slice o3 L3 c3])) G := ⟨.slice o3 L3 c3, by unfold ndV; rw [hRop, hRlo, hRhi], by unfold ndV; rw [hRop, hRlo, hRhi]; exact NG, (G2.out.trans f3).step FG (fun z hz => .inr (by simp at hz; have := hord.out; omega))⟩
      have cG := PG.cell
      replace n3 := Lib.hid n3; replace f3 := Lib.hid f3; replace P03 := Lib.hid P03; replace FG := Lib.hid FG; replace PG := Lib.hid PG; replace NG := Lib.hid NG; replace GO := Lib.hid GO; replace hRop := Lib.hid hRop; replace hRlo := Lib.hid hRlo; replace hRhi := Lib.hid hRhi
      clear k1 k0 z0 z1
      go_wp2_with fail
      exact bodyPost_ret (v := .agg #[.int .i64 Rop, .int .i64 Rlo, .int .i64 Rhi, .slice o3 L3 c3]) (by simp [results, Try.results46, go_sem, cG]) rfl GO.out
    · have y5 : (op == 5) = false := by simpa using h5
      have eR := RE h5
      rw [eR, hlo, hhi]
      clear h5k R5 RE h5
      have hl9 := Lib.hid hl
      clear hl
      replace ih := Lib.hid ih; replace hK := Lib.hid hK; replace P1 := Lib.hid P1; replace F1 := Lib.hid F1; replace P0 := Lib.hid P0; replace F2 := Lib.hid F2; replace ht := Lib.hid ht; replace hord := Lib.hid hord; replace I0 := Lib.hid I0; replace hop := Lib.hid hop; replace hlo := Lib.hid hlo; replace hhi := Lib.hid hhi; replace G2 := Lib.hid G2; replace Q1 := Lib.hid Q1; replace eR := Lib.hid eR; replace hs := Lib.hid hs
      go_enter Try.func46, Try.ntmps46
      go_wp2_with fail
      go_loopg [3, 17] (K + 1) (fun k v3 v17 wr => ∃ (i : Nat) (ks : List (Nd × Value)) (bo : Option Nat), i ≤ K ∧ k + i = K + 1 ∧ v17 = .int .i64 i ∧ RoI w t r0 b1 n o K cap i ks wr v3 bo)
      case atStart => exact ⟨0, [], none, by omega, by omega, rfl, I0.out⟩
      case round =>
        obtain ⟨i, ks, bo, hi2, hk, rfl, hI⟩ := hrel
        obtain ⟨wi, rfl⟩ : ∃ x : World, x = wr := ⟨_, rfl⟩
        have hF := hI.fr
        have hlen : ks.length = i := by have := congrArg List.length hI.eq; rw [List.length_map, List.length_map, List.length_take] at this; have := hK.out; omega
        obtain ⟨ou, cu, hu⟩ := hI.kid.row.len
        rw [hlen] at hu
        subst hu
        have q1 := hI.p1
        rw [hop.out, hlo.out, hhi.out] at q1
        have k3 := q1.cell
        have sz := hI.sz
        obtain ⟨or1, or2, or3⟩ := hord.out
        by_cases hlt : i < K
        · as_aux_lemma =>
          have hltI : (i : Int) < K := by omega
          have hil : i < n.kids.length := by have := hK.out; omega
          have hl := Lib.hid hl9.out
          obtain ⟨B, off, s, hoB, hB, _, a1, a2, a3, a4, hkid⟩ := hl.out (i) hil
          have x1 := hF.cell (p := ⟨B, off + (i) * 4, none⟩) hB (by simp)
          have x2 := hF.cell (p := ⟨B, off + (i) * 4 + 1, none⟩) hB (by simp)
          have x3 := hF.cell (p := ⟨B, off + (i) * 4 + 2, none⟩) hB (by simp)
          have x4 := hF.cell (p := ⟨B, off + (i) * 4 + 3, none⟩) hB (by simp)
          rw [a1] at x1
          rw [a2] at x2
          rw [a3] at x3
          rw [a4] at x4
          clear a1 a2 a3 a4
          subst hoB
          obtain ⟨so, sL, sc, rfl⟩ := hkid.sl
          obtain ⟨kop, hkop⟩ : ∃ x, n.kids[i].op = x := ⟨_, rfl⟩
          obtain ⟨klo, hklo⟩ : ∃ x, n.kids[i].lo = x := ⟨_, rfl⟩
          obtain ⟨khi, hkhi⟩ : ∃ x, n.kids[i].hi = x := ⟨_, rfl⟩
          rw [hkop] at x1 hkid
          rw [hklo] at x2 hkid
          rw [hkhi] at x3 hkid
          obtain ⟨w4, hw4⟩ : ∃ x, wi.alloc (.cells #[.int .i64 kop, .int .i64 klo, .int .i64 khi, .slice so sL sc] 46) = x := ⟨_, rfl⟩
          have P4 := Pt.newA wi 46 #[.int .i64 kop, .int .i64 klo, .int .i64 khi, .slice so sL sc]
          rw [hw4] at P4
          have F4 : Fr [] wi w4 := by rw [← hw4]; exact (Fr.refl [] wi).alloc _
          obtain ⟨b4, hb4⟩ : ∃ x, wi.heap.size = x := ⟨_, rfl⟩
          rw [hb4] at P4
          have k4 := P4.cell
          have C := ih.out i hil w4 _ (hkid.go (hF.trans F4))
          have NX := fun W (f : Fr [] wi W) s2 (hs : NIn (fun z => wi.heap.size ≤ z) W n.kids[i].rt (ndV n.kids[i].rt s2)) => hI.next hord.out hil (by have := hK.out; omega) f hs
          obtain ⟨R, hR⟩ : ∃ R, n.kids[i].rt = R := ⟨_, rfl⟩
          rw [hR] at C NX
          replace hI := Lib.hid hI; replace hF := Lib.hid hF; replace hlen := Lib.hid hlen; replace q1 := Lib.hid q1; replace hkop := Lib.hid hkop; replace hklo := Lib.hid hklo; replace hkhi := Lib.hid hkhi; replace hkid := Lib.hid hkid; replace P4 := Lib.hid P4; replace F4 := Lib.hid F4; replace C := Lib.hid C; replace NX := Lib.hid NX; replace hR := Lib.hid hR; replace hl := Lib.hid hl
          go_wp2_with fail
          refine (C.out).mono ?_
          rintro e w6 ⟨s6, rfl, n6, f6⟩
          obtain ⟨o6, L6, c6, rfl⟩ := n6.sl
          obtain ⟨v9, w9, b9, happ, N9⟩ := NX.out w6 (F4.out.trans f6) _ (n6.fr (Fr.refl [] _) (fun b _ hq => ⟨by simp, by have := F4.out.size; omega⟩))
          unfold ndV
          obtain ⟨Rop, hRop⟩ : ∃ x, R.op = x := ⟨_, rfl⟩
          obtain ⟨Rlo, hRlo⟩ : ∃ x, R.lo = x := ⟨_, rfl⟩
          obtain ⟨Rhi, hRhi⟩ : ∃ x, R.hi = x := ⟨_, rfl⟩
          rw [hRop, hRlo, hRhi] at happ ⊢
          replace n6 := Lib.hid n6; replace f6 := Lib.hid f6; replace happ := Lib.hid happ; replace N9 := Lib.hid N9; replace hRop := Lib.hid hRop; replace hRlo := Lib.hid hRlo; replace hRhi := Lib.hid hRhi
          go_wp2_with (first | (at_builtin; refine wpList_append_run _ rfl _ _ _ rfl rfl rfl happ.out ?_))
          go_roundg (gk - 1)
          case measure => omega
          case rel => exact ⟨i + 1, _, _, by omega, by omega, by go_num, N9.out⟩
        · as_aux_lemma =>
          obtain rfl : i = K := by omega
          have hltI : ¬ (i : Int) < (i : Int) := by omega
          have heq : ks.map Prod.fst = n.kids.map Nd.rt := by rw [hI.eq, List.take_of_length_le (by have := hK.out; omega)]
          have k0i := hI.p0.cell
          have z0i := hI.p0.free
          have z1i := q1.free
          obtain ⟨G1, hG1⟩ : ∃ G, wi.setCell ⟨b1, 3, none⟩ (.slice ou i cu) = G := ⟨_, rfl⟩
          have FG1 : Fr [b1] wi G1 := by rw [← hG1]; exact (Fr.refl [b1] wi).setCell (by simp) _
          have PG1 : Pt G1 b1 46 [.int .i64 op, .int .i64 lo, .int .i64 hi, .slice ou i cu] := by rw [← hG1]; exact q1.set' rfl
          have P01 := FG1.pt hI.p0 (by simp; omega)
          have k11 := PG1.cell
          have k01 := P01.cell
          have z01 := P01.free
          obtain ⟨G, hG⟩ : ∃ G, (((G1.setCell ⟨r0, 0, none⟩ (.int .i64 op)).setCell ⟨r0, 1, none⟩ (.int .i64 lo)).setCell ⟨r0, 2, none⟩ (.int .i64 hi)).setCell ⟨r0, 3, none⟩ (.slice ou i cu) = G := ⟨_, rfl⟩
          have FG : Fr [r0] G1 G := by
            rw [← hG]
            exact ((((Fr.refl [r0] G1).setCell (by simp) _).setCell (by simp) _).setCell (by simp) _).setCell (by simp) _
          have PG : Pt G r0 46 [.int .i64 op, .int .i64 lo, .int .i64 hi, .slice ou i cu] := by
            rw [← hG]
            exact (((P01.set' rfl).set' rfl).set' rfl).set' rfl
          have NG := ((hI.kid.fr FG1 (by simp; omega)).fr FG (by simp; omega)).ni op lo hi
          rw [heq] at NG
          have NG2 := NG.fr (q' := fun z => w.heap.size ≤ z) (Fr.refl [] G) (fun b _ hq => ⟨by simp, by omega⟩)
          have GO : NodR (.mk op lo hi (n.kids.map Nd.rt)) w (.returned (.agg #[.int .i64 op, .int .i64 lo, .int .i64 hi, .slice ou i cu])) G := ⟨.slice ou i cu, rfl, NG2, (hF.step FG1 (fun z hz => .inr (by simp at hz; omega))).step FG (fun z hz => .inr (by simp at hz; omega))⟩
          have cG := PG.cell
          clear k1 k0 z0 z1
          replace hI := Lib.hid hI; replace hlen := Lib.hid hlen; replace q1 := Lib.hid q1; replace hF := Lib.hid hF; replace heq := Lib.hid heq; replace FG := Lib.hid FG; replace PG := Lib.hid PG; replace FG1 := Lib.hid FG1; replace PG1 := Lib.hid PG1; replace P01 := Lib.hid P01; replace NG := Lib.hid NG; replace NG2 := Lib.hid NG2; replace GO := Lib.hid GO
          go_wp2_with fail
          exact bodyPost_ret (v := .agg #[.int .i64 op, .int .i64 lo, .int .i64 hi, .slice ou i cu]) (by simp [results, Try.results46, go_sem, cG]) rfl GO.out
end Go.Proofs.Ytehmfnpiidcbpaa
