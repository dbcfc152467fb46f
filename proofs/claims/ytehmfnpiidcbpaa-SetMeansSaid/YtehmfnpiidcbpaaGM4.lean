import Derived.Test.YtehmfnpiidcbpaaGM3
namespace Go.Proofs.Ytehmfnpiidcbpaa
open Go.RowKit
set_option linter.unusedVariables false
set_option linter.unusedSimpArgs false
set_option maxHeartbeats 16000000
set_option maxRecDepth 100000
/-! ### The law's node -/
structure NoI (w : World) (t r0 b1 b3 : Nat) (n : Nd) (o : Option Addr) (K cap : Nat) (i : Nat) (ks : List (Nd × Value)) (wr : World) (v : Value) (bo : Option Nat) : Prop where
  eq : ks.map Prod.fst = n.kids.take i
  kid : KidI t ks wr v bo
  p1 : Pt wr b1 40 [.int .i64 n.op, .int .i64 n.lo, .int .i64 n.hi, .slice o K cap]
  p0 : Pt wr r0 46 [.int .i64 0, .int .i64 0, .int .i64 0, .slice none 0 0]
  p3 : Pt wr b3 46 [.int .i64 n.op, .int .i64 n.lo, .int .i64 n.hi, v]
  fr : Fr [] w wr
  sz : t ≤ wr.heap.size
theorem NoI.next {w : World} {t r0 b1 b3 : Nat} {n : Nd} {o : Option Addr} {K cap i : Nat} {ks : List (Nd × Value)} {wr : World} {v : Value} {bo : Option Nat} (I : NoI w t r0 b1 b3 n o K cap i ks wr v bo) (hr : w.heap.size ≤ b1 ∧ b1 < r0 ∧ r0 < b3 ∧ b3 < t) (hi : i < n.kids.length) (hn : n.kids.length ≤ 100000) {W : World} (hf : Fr [] wr W) {s : Value} (hs : NIn (fun z => wr.heap.size ≤ z) W n.kids[i] (ndV n.kids[i] s)) :
    ∃ v' w' bo', (Builtin.append_ #[44, 44] 44 #[v, .slice (some ⟨W.heap.size, 0, none⟩) 1 1]).run Try.prog (W.alloc (.cells #[.int .i64 n.kids[i].op, .int .i64 n.kids[i].lo, .int .i64 n.kids[i].hi, s] 46)) = .ok v' w' ∧
      Pt w' b3 46 [.int .i64 n.op, .int .i64 n.lo, .int .i64 n.hi, v] ∧ NoI w t r0 b1 b3 n o K cap (i + 1) (ks ++ [(n.kids[i], s)]) (w'.setCell ⟨b3, 3, none⟩ v') v' bo' := by
  obtain ⟨h0, h1, h2, h3⟩ := hr
  have hlen : ks.length = i := by have := congrArg List.length I.eq; rw [List.length_map, List.length_take] at this; omega
  obtain ⟨v', w', bo', e1, e2, e3⟩ := I.kid.put I.sz (by omega) hf hs
  have hne : ∀ x, x < t → x ∉ bo.toList := fun x hx hm => by have := I.kid.new x (by simpa using hm); omega
  have p3 := e3.pt (hf.pt I.p3 (by simp)) (hne b3 h3)
  have p1 := e3.pt (hf.pt I.p1 (by simp)) (hne b1 (by omega))
  have p0 := e3.pt (hf.pt I.p0 (by simp)) (hne r0 (by omega))
  have g : Fr [b3] w' (w'.setCell ⟨b3, 3, none⟩ v') := (Fr.refl _ _).setCell (by simp) _
  refine ⟨v', w', bo', e1, p3, ?_, e2.fr g (by simp; omega), g.pt p1 (by simp; omega), g.pt p0 (by simp; omega), p3.set' rfl, ?_, ?_⟩
  · rw [List.map_append, I.eq, List.take_succ_eq_append_getElem hi]; rfl
  · exact ((I.fr.trans hf).step e3 (fun z hz => .inr (by have := I.kid.new z (by simpa using hz); omega))).step g (fun z hz => .inr (by simp at hz; omega))
  · have := I.sz; have := hf.size; have := e3.size; have := g.size; omega
theorem node_any : ∀ (M : Nat) (n : Nd) (w : World) (v : Value), n.nodes ≤ M → M ≤ 100000 → NI w n v →
    Calls Try.prog 27 #[v] w (NodR n w)
  | 0, n, w, v, hN, _, _ => by have := nodes_pos n; omega
  | M + 1, n, w, v, hN, hM, hv => by
    have ih := fun (i : Nat) (hi : i < n.kids.length) W s (h : NI W n.kids[i] s) => node_any M n.kids[i] W s (by have := kid_lt hi; omega) (by omega) h
    obtain ⟨o, cap, rfl, hl⟩ := hv.open
    have e3 := nodesL_len n.kids
    have e4 := n.nodes_eq
    obtain ⟨K, hK⟩ : ∃ x, n.kids.length = x := ⟨_, rfl⟩
    have hKb : K ≤ 100000 := by omega
    rw [hK]
    clear hv hN hM e3 e4
    obtain ⟨w1, hw1⟩ : ∃ x, w.alloc (.cells #[.int .i64 n.op, .int .i64 n.lo, .int .i64 n.hi, .slice o K cap] 40) = x := ⟨_, rfl⟩
    have P1 := Pt.newA w 40 #[.int .i64 n.op, .int .i64 n.lo, .int .i64 n.hi, .slice o K cap]
    rw [hw1] at P1
    have F1 : Fr [] w w1 := by rw [← hw1]; exact (Fr.refl [] w).alloc _
    obtain ⟨b1, hb1⟩ : ∃ x, w.heap.size = x := ⟨_, rfl⟩
    rw [hb1] at P1
    obtain ⟨w2, hw2⟩ : ∃ x, w1.alloc (.cells #[.int .i64 0, .int .i64 0, .int .i64 0, .slice none 0 0] 46) = x := ⟨_, rfl⟩
    have P0 := Pt.newA w1 46 #[.int .i64 0, .int .i64 0, .int .i64 0, .slice none 0 0]
    rw [hw2] at P0
    have F2 : Fr [] w1 w2 := by rw [← hw2]; exact (Fr.refl [] w1).alloc _
    obtain ⟨r0, hr0⟩ : ∃ x, w1.heap.size = x := ⟨_, rfl⟩
    rw [hr0] at P0
    obtain ⟨w3, hw3⟩ : ∃ x, w2.alloc (.cells #[.int .i64 n.op, .int .i64 n.lo, .int .i64 n.hi, .slice none 0 0] 46) = x := ⟨_, rfl⟩
    have P3 := Pt.newA w2 46 #[.int .i64 n.op, .int .i64 n.lo, .int .i64 n.hi, .slice none 0 0]
    rw [hw3] at P3
    have F3 : Fr [] w2 w3 := by rw [← hw3]; exact (Fr.refl [] w2).alloc _
    obtain ⟨b3, hb3⟩ : ∃ x, w2.heap.size = x := ⟨_, rfl⟩
    rw [hb3] at P3
    obtain ⟨t, ht⟩ : ∃ t, w3.heap.size = t := ⟨_, rfl⟩
    have hord : w.heap.size ≤ b1 ∧ b1 < r0 ∧ r0 < b3 ∧ b3 < t := by
      have q0 := P0.lt; have q1 := P1.lt; have q3 := P3.lt; omega
    have I0 : NoI w t r0 b1 b3 n o K cap 0 [] w3 (.slice none 0 0) none := ⟨rfl, KidI.nil _ _ _, (F2.trans F3).pt P1 (by simp), F3.pt P0 (by simp), P3, (F1.trans F2).trans F3, by omega⟩
    obtain ⟨op, hop⟩ : ∃ x, n.op = x := ⟨_, rfl⟩
    obtain ⟨lo, hlo⟩ : ∃ x, n.lo = x := ⟨_, rfl⟩
    obtain ⟨hi, hhi⟩ : ∃ x, n.hi = x := ⟨_, rfl⟩
    rw [hop, hlo, hhi] at hw1 hw3 P1 P3 ⊢
    have k1 := P1.cell
    have k13 := ((F2.trans F3).pt P1 (by simp)).cell
    have k12 := (F2.pt P1 (by simp)).cell
    replace ih := Lib.hid ih; replace hl := Lib.hid hl; replace hK := Lib.hid hK; replace P1 := Lib.hid P1; replace F1 := Lib.hid F1; replace P0 := Lib.hid P0; replace F2 := Lib.hid F2; replace P3 := Lib.hid P3; replace F3 := Lib.hid F3; replace ht := Lib.hid ht; replace hord := Lib.hid hord; replace I0 := Lib.hid I0; replace hop := Lib.hid hop; replace hlo := Lib.hid hlo; replace hhi := Lib.hid hhi; replace hw3 := Lib.hid hw3
    go_enter Try.func27, Try.ntmps27
    go_wp2_with fail
    rw [hw3.out]
    go_loopg [4] (K + 1) (fun k v4 wr => ∃ (i : Nat) (ks : List (Nd × Value)) (u : Value) (bo : Option Nat), i ≤ K ∧ k + i = K + 1 ∧ v4 = .int .i64 i ∧ NoI w t r0 b1 b3 n o K cap i ks wr u bo)
    case atStart => exact ⟨0, [], _, none, by omega, by omega, rfl, I0.out⟩
    case round =>
      obtain ⟨i, ks, u, bo, hi2, hk, rfl, hI⟩ := hrel
      obtain ⟨wi, rfl⟩ : ∃ x : World, x = wr := ⟨_, rfl⟩
      have hF := hI.fr
      have hlen : ks.length = i := by have := congrArg List.length hI.eq; rw [List.length_map, List.length_take] at this; have := hK.out; omega
      obtain ⟨ou, cu, hu⟩ := hI.kid.row.len
      rw [hlen] at hu
      subst hu
      have q1 := hI.p1
      have q3 := hI.p3
      rw [hop.out, hlo.out, hhi.out] at q1 q3
      have k3 := q1.cell
      have k4 := q3.cell
      have sz := hI.sz
      obtain ⟨or1, or2, or3, or4⟩ := hord.out
      by_cases hlt : i < K
      · as_aux_lemma =>
        have hltI : (i : Int) < K := by omega
        have hil : i < n.kids.length := by have := hK.out; omega
        obtain ⟨B, off, s, hoB, hB, _, a1, a2, a3, a4, hkid⟩ := hl.out i hil
        subst hoB
        obtain ⟨so, sL, sc, rfl⟩ := hkid.sl
        have NX := fun W (f : Fr [] wi W) s2 (hs : NIn (fun z => wi.heap.size ≤ z) W n.kids[i] (ndV n.kids[i] s2)) => hI.next hord.out hil (by have := hK.out; omega) f hs
        have C : ∀ W, Fr [] wi W → Calls Try.prog 27 #[.agg #[.int .i64 n.kids[i].op, .int .i64 n.kids[i].lo, .int .i64 n.kids[i].hi, .slice so sL sc]] W (fun e w' => ∃ s, e = .returned (ndV n.kids[i] s) ∧ NIn (fun z => wi.heap.size ≤ z) w' n.kids[i] (ndV n.kids[i] s) ∧ Fr [] W w') := fun W f => (ih.out i hil W _ (hkid.go (hF.trans f))).mono fun e w' ⟨s, q1, q2, q3⟩ => ⟨s, q1, q2.fr (Fr.refl [] _) (fun b _ hq => ⟨by simp, by have := f.size; omega⟩), q3⟩
        obtain ⟨kop, hkop⟩ : ∃ x, n.kids[i].op = x := ⟨_, rfl⟩
        obtain ⟨klo, hklo⟩ : ∃ x, n.kids[i].lo = x := ⟨_, rfl⟩
        obtain ⟨khi, hkhi⟩ : ∃ x, n.kids[i].hi = x := ⟨_, rfl⟩
        unfold ndV at C
        unfold ndV at NX
        rw [hkop, hklo, hkhi] at C NX
        rw [hkop] at a1
        rw [hklo] at a2
        rw [hkhi] at a3
        -- what can be read, later on
        have RD : ∀ W, Fr [] wi W → (W.cell? ⟨B, off + i * 4, none⟩ = some (.int .i64 kop) ∧ W.cell? ⟨B, off + i * 4 + 1, none⟩ = some (.int .i64 klo) ∧ W.cell? ⟨B, off + i * 4 + 2, none⟩ = some (.int .i64 khi) ∧ W.cell? ⟨B, off + i * 4 + 3, none⟩ = some (.slice so sL sc)) ∧ W.cell? ⟨b1, 3, none⟩ = some (.slice (some ⟨B, off, none⟩) K cap) ∧ W.cell? ⟨b3, 3, none⟩ = some (.slice ou i cu) := fun W f => by
          have g := hF.trans f
          refine ⟨⟨?_, ?_, ?_, ?_⟩, ?_, ?_⟩
          · rw [g.cell (p := ⟨B, off + i * 4, none⟩) hB (by simp)]; exact a1
          · rw [g.cell (p := ⟨B, off + i * 4 + 1, none⟩) hB (by simp)]; exact a2
          · rw [g.cell (p := ⟨B, off + i * 4 + 2, none⟩) hB (by simp)]; exact a3
          · rw [g.cell (p := ⟨B, off + i * 4 + 3, none⟩) hB (by simp)]; exact a4
          · rw [(f.pt q1 (by simp)).cell]; rfl
          · rw [(f.pt q3 (by simp)).cell]; rfl
        obtain ⟨⟨x1, x2, x3, x4⟩, x5, x6⟩ := RD wi (Fr.refl _ _)
        clear a1 a2 a3 a4 k3 k4
        replace hI := Lib.hid hI; replace hlen := Lib.hid hlen; replace q1 := Lib.hid q1; replace q3 := Lib.hid q3; replace hF := Lib.hid hF; replace hkid := Lib.hid hkid; replace NX := Lib.hid NX; replace C := Lib.hid C; replace RD := Lib.hid RD; replace hkop := Lib.hid hkop; replace hklo := Lib.hid hklo; replace hkhi := Lib.hid hkhi
        go_upto_region 5 with fail
        clear k1 k12 k13
        go_region_law (first
          | (go_simp; go_at_call 27; with_reducible refine Calls.mono (C.out _ ?hfr) ?_; (case hfr => first | exact (Fr.refl _ _).drew | exact Fr.refl _ _); rintro e w6 ⟨s6, rfl, n6, f6⟩; have F6 : Fr [] wi w6 := ((Fr.refl [] wi).drew).trans f6; obtain ⟨o6, L6, c6, rfl⟩ := n6.sl; obtain ⟨⟨y1, y2, y3, y4⟩, y5, y6⟩ := RD.out w6 F6; obtain ⟨v9, w9, b9, happ, P9, N9⟩ := NX.out w6 F6 _ n6; obtain ⟨wA, hwA⟩ : ∃ x, w6.alloc (.cells #[.int .i64 kop, .int .i64 klo, .int .i64 khi, .slice o6 L6 c6] 46) = x := ⟨_, rfl⟩; obtain ⟨⟨z1, z2, z3, z4⟩, z5, z6⟩ := RD.out wA (by rw [← hwA]; exact F6.alloc _); rw [hwA] at happ; obtain ⟨wb, hwb⟩ : ∃ x, w6.heap.size = x := ⟨_, rfl⟩; rw [hwb] at happ; obtain ⟨o9, c9, h9⟩ := N9.kid.row.len; simp only [List.length_append, hlen.out, List.length_cons, List.length_nil, Nat.zero_add] at h9; subst h9; have c9' := P9.cell; have z9' := P9.free; replace n6 := Lib.hid n6; replace f6 := Lib.hid f6; replace F6 := Lib.hid F6; replace happ := Lib.hid happ; replace P9 := Lib.hid P9; replace N9 := Lib.hid N9)
          | (refine step_append_run rfl _ _ _ rfl (v := .slice ou i cu) rfl (xv := .slice (some ⟨wb, 0, none⟩) 1 1) rfl happ.out ?_))
        all_goals
          go_wp2_with fail
          go_roundg (gk - 1)
          case measure => omega
          case rel => exact ⟨i + 1, _, _, _, by omega, by omega, by go_num, N9.out⟩
      · as_aux_lemma =>
        obtain rfl : i = K := by omega
        have hltI : ¬ (i : Int) < (i : Int) := by omega
        have heq : ks.map Prod.fst = n.kids := by rw [hI.eq]; exact List.take_of_length_le (by have := hK.out; omega)
        have k0 := hI.p0.cell
        have z0 := hI.p0.free
        have nr0 : r0 ≠ b3 := by omega
        obtain ⟨G, hG⟩ : ∃ G, (((wi.setCell ⟨r0, 0, none⟩ (.int .i64 op)).setCell ⟨r0, 1, none⟩ (.int .i64 lo)).setCell ⟨r0, 2, none⟩ (.int .i64 hi)).setCell ⟨r0, 3, none⟩ (.slice ou i cu) = G := ⟨_, rfl⟩
        have FG : Fr [r0] wi G := by
          rw [← hG]
          exact ((((Fr.refl [r0] wi).setCell (by simp) _).setCell (by simp) _).setCell (by simp) _).setCell (by simp) _
        have PG : Pt G r0 46 [.int .i64 op, .int .i64 lo, .int .i64 hi, .slice ou i cu] := by
          rw [← hG]
          exact (((hI.p0.set' rfl).set' rfl).set' rfl).set' rfl
        have NG := (hI.kid.fr FG (by simp; omega)).ni op lo hi
        rw [heq] at NG
        have NG2 : NIn (fun z => w.heap.size ≤ z) G n (ndV n (.slice ou i cu)) := by
          have := NG.fr (q' := fun z => w.heap.size ≤ z) (Fr.refl [] G) (fun b _ hq => ⟨by simp, by omega⟩)
          unfold ndV
          rw [hop.out, hlo.out, hhi.out]
          have en : n = .mk op lo hi n.kids := by rw [← hop.out, ← hlo.out, ← hhi.out]; exact n.eta.symm
          rw [← en] at this
          exact this
        have GO : NodR n w (.returned (.agg #[.int .i64 op, .int .i64 lo, .int .i64 hi, .slice ou i cu])) G := ⟨.slice ou i cu, by unfold ndV; rw [hop.out, hlo.out, hhi.out], NG2, hF.step FG (fun z hz => .inr (by simp at hz; omega))⟩
        have cG := PG.cell
        clear k1 k12 k13
        replace hI := Lib.hid hI; replace hlen := Lib.hid hlen; replace q1 := Lib.hid q1; replace q3 := Lib.hid q3; replace hF := Lib.hid hF; replace heq := Lib.hid heq; replace FG := Lib.hid FG; replace PG := Lib.hid PG; replace NG := Lib.hid NG; replace NG2 := Lib.hid NG2; replace GO := Lib.hid GO
        go_wp2_with fail
        exact bodyPost_ret (v := .agg #[.int .i64 op, .int .i64 lo, .int .i64 hi, .slice ou i cu]) (by simp [results, Try.results27, go_sem, cG]) rfl GO.out
end Go.Proofs.Ytehmfnpiidcbpaa
