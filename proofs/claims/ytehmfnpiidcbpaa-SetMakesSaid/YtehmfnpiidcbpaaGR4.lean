import Derived.Test.YtehmfnpiidcbpaaGR2
import Derived.Test.YtehmfnpiidcbpaaGR3
import Derived.Test.YtehmfnpiidcbpaaGS9
namespace Go.Proofs.Ytehmfnpiidcbpaa
open Go.RowKit
set_option linter.unusedVariables false
set_option linter.unusedSimpArgs false
set_option maxHeartbeats 16000000
set_option maxRecDepth 100000
/-! ### The reference's set -/
theorem get_at {L : List Int} {i : Nat} (h : i < L.length) {b : Int} (hb : L[i]? = some b) : L[i] = b := by
  rw [List.getElem?_eq_getElem h] at hb; exact Option.some.inj hb
/-- Half way through the places. -/
structure StI (n : Nd) (L : List Int) (i : Nat) (out : List (Int × Int)) : Prop where
  le : i + 1 ≤ L.length
  ex : ∀ b, L[i]? = some b → SetI (fun x => n.hold x) (-1000000000000000) b out
  ends : EndB out
  len : out.length ≤ i
theorem StI.start {n : Nd} (hs : n.wk = true) : StI n (plcF n) 0 [] := by
  have h2 := plc_mem n
  have hl : 0 < (plcF n).length := List.length_pos_of_mem h2.1
  refine ⟨hl, fun b hb => ?_, EndB.nil, by simp⟩
  have e := get_at hl hb
  rw [plc_first hs hl] at e
  subst e
  exact SetI.start _ _
section
variable {n : Nd} {i : Nat} {out : List (Int × Int)} {b c : Int}
theorem StI.facts (h : StI n (plcF n) i out) (hs : n.wk = true) (hi : i + 1 < (plcF n).length) (hb : (plcF n)[i]? = some b) (hc : (plcF n)[i + 1]? = some c) :
    b < c ∧ (∀ x, b ≤ x → x < c → n.hold x = n.hold b) ∧ -1000000000000000 ≤ b ∧ b ≤ 1000000000000001 ∧ -1000000000000000 ≤ c ∧ c ≤ 1000000000000001 ∧ SetI (fun x => n.hold x) (-1000000000000000) b out := by
  have eb := get_at (by omega) hb
  have ec := get_at hi hc
  have h1 := plc_step n i hi
  have h2 := plc_same n i hi
  have h3 := plc_bd hs _ (List.getElem_mem (l := plcF n) (n := i) (by omega))
  have h4 := plc_bd hs _ (List.getElem_mem hi)
  rw [eb, ec] at h1
  simp only [eb, ec] at h2
  rw [eb] at h3
  rw [ec] at h4
  exact ⟨h1, h2, h3.1, h3.2, h4.1, h4.2, h.ex b hb⟩
theorem StI.skip (h : StI n (plcF n) i out) (hs : n.wk = true) (hi : i + 1 < (plcF n).length) (hb : (plcF n)[i]? = some b) (hc : (plcF n)[i + 1]? = some c) (hz : n.hold b = false) : StI n (plcF n) (i + 1) out := by
  obtain ⟨h1, h2, _, _, _, _, I⟩ := h.facts hs hi hb hc
  refine ⟨by omega, fun c' hc' => ?_, h.ends, by have := h.len; omega⟩
  rw [hc] at hc'; cases hc'
  exact I.skip h1 h2 hz
theorem StI.new (h : StI n (plcF n) i out) (hs : n.wk = true) (hi : i + 1 < (plcF n).length) (hb : (plcF n)[i]? = some b) (hc : (plcF n)[i + 1]? = some c) (hz : n.hold b = true) (hne : ∀ r ∈ out, r.2 ≠ b - 1) : StI n (plcF n) (i + 1) (out ++ [(b, c - 1)]) := by
  obtain ⟨h1, h2, h3, _, _, h6, I⟩ := h.facts hs hi hb hc
  refine ⟨by omega, fun c' hc' => ?_, h.ends.app (EndB.one (by omega) (by omega)), by have := h.len; simp; omega⟩
  rw [hc] at hc'; cases hc'
  exact I.new h3 h1 h2 hz hne
theorem StI.more {pre : List (Int × Int)} {p : Int} (h : StI n (plcF n) i (pre ++ [(p, b - 1)])) (hs : n.wk = true) (hi : i + 1 < (plcF n).length) (hb : (plcF n)[i]? = some b) (hc : (plcF n)[i + 1]? = some c) (hz : n.hold b = true) : StI n (plcF n) (i + 1) (pre ++ [(p, c - 1)]) := by
  obtain ⟨h1, h2, h3, _, _, h6, I⟩ := h.facts hs hi hb hc
  refine ⟨by omega, fun c' hc' => ?_, h.ends.left.app (EndB.one (by omega) (by omega)), by have := h.len; simp at this ⊢; omega⟩
  rw [hc] at hc'; cases hc'
  exact I.more h3 h1 h2 hz rfl
/-- Of all that has been put out the last alone can end just ahead of b. -/
theorem StI.last {pre : List (Int × Int)} {p q : Int} (h : StI n (plcF n) i (pre ++ [(p, q)])) (hb : (plcF n)[i]? = some b) (hq : q ≠ b - 1) : ∀ r ∈ pre ++ [(p, q)], r.2 ≠ b - 1 := fun r hr => by
  have I := h.ex b hb
  obtain ⟨n1, n2, n3⟩ := I.nf.init
  have e := (I.ends (r := (p, q)) (by simp)).2
  dsimp only at n2 n3 e
  rcases List.mem_append.1 hr with hr | hr
  · have := n3 r hr; omega
  · obtain rfl := List.mem_singleton.1 hr; exact hq
theorem StI.done (h : StI n (plcF n) i out) (hs : n.wk = true) (hi : i + 1 = (plcF n).length) : Nf out ∧ ∀ x, inS out x ↔ n.hold x = true := by
  have hl : (plcF n).length - 1 < (plcF n).length := by omega
  have e := plc_last hs hl
  have h2 := h.ex 1000000000000001 (by
    rw [List.getElem?_eq_getElem (show i < (plcF n).length by omega)]
    congr 1
    rw [← e]
    congr 1
    omega)
  exact SetI.done hs h2
end
theorem set_any (n : Nd) (w : World) (v : Value) (hN : n.nodes ≤ 1000) (hs : n.wk = true) (hv : NI w n v) :
    Calls Try.prog 53 #[v] w (NewR (fun x => n.hold x = true) w) := by
  have CP := fun W (f : Fr [] w W) => places_any n.nodes n W v (.slice none 0 0) [] (Nat.le_refl _) (by omega) hs (hv.go f) (IIn.nil W) (by simp; omega)
  have CH := fun W x (f : Fr [] w W) => holds_any n.nodes n W v x (Nat.le_refl _) (by omega) hs (hv.go f)
  have hpl := plc_len n
  have hpn := pl_len n []
  obtain ⟨o, cap, rfl, hl0⟩ := hv.open
  obtain ⟨op, hop⟩ : ∃ x, n.op = x := ⟨_, rfl⟩
  obtain ⟨lo, hlo⟩ : ∃ x, n.lo = x := ⟨_, rfl⟩
  obtain ⟨hi, hhi⟩ : ∃ x, n.hi = x := ⟨_, rfl⟩
  obtain ⟨K, hK⟩ : ∃ x, n.kids.length = x := ⟨_, rfl⟩
  rw [hop, hlo, hhi, hK] at CP CH ⊢
  clear hv hl0
  obtain ⟨w1, hw1⟩ : ∃ x, w.alloc (.cells #[.int .i64 op, .int .i64 lo, .int .i64 hi, .slice o K cap] 40) = x := ⟨_, rfl⟩
  have P1 := Pt.newA w 40 #[.int .i64 op, .int .i64 lo, .int .i64 hi, .slice o K cap]
  rw [hw1] at P1
  have F1 : Fr [] w w1 := by rw [← hw1]; exact (Fr.refl [] w).alloc _
  obtain ⟨b1, hb1⟩ : ∃ x, w.heap.size = x := ⟨_, rfl⟩
  rw [hb1] at P1
  have k1 := P1.cell
  have CP1 := CP w1 F1
  have S0 := StI.start hs
  replace CP := Lib.hid CP; replace CP1 := Lib.hid CP1; replace CH := Lib.hid CH; replace hop := Lib.hid hop; replace hlo := Lib.hid hlo; replace hhi := Lib.hid hhi; replace hK := Lib.hid hK; replace hs := Lib.hid hs; replace P1 := Lib.hid P1; replace F1 := Lib.hid F1; replace S0 := Lib.hid S0; replace hpl := Lib.hid hpl; replace hpn := Lib.hid hpn
  go_enter Try.func53, Try.ntmps53
  go_wp2_with fail
  refine (CP1.out).mono ?_
  rintro e w2 ⟨v2, rfl, p2, f2⟩
  have C2 := put_any v2 _ (-1000000000000000) w2 p2 (by have := hpn.out; simp at this; omega)
  replace p2 := Lib.hid p2; replace f2 := Lib.hid f2; replace C2 := Lib.hid C2
  go_wp2_with fail
  refine (C2.out).mono ?_
  rintro e w3 ⟨v3, rfl, p3, f3⟩
  have C3 := put_any v3 _ 1000000000000001 w3 p3 (by have := hpn.out; have := len_putF (-1000000000000000) (n.pl []); simp at *; omega)
  replace p3 := Lib.hid p3; replace f3 := Lib.hid f3; replace C3 := Lib.hid C3
  go_wp2_with fail
  refine (C3.out).mono ?_
  rintro e w4 ⟨v4, rfl, p4, f4⟩
  have p4 : IIn w4 v4 (plcF n) := p4
  have F4 := (f2.out.trans f3.out).trans f4
  obtain ⟨oL, cL, rfl, hL⟩ := p4
  obtain ⟨N, hN2⟩ : ∃ N, (plcF n).length = N := ⟨_, rfl⟩
  have hNb : N ≤ 3000 := by have := hpl.out; omega
  rw [hN2]
  replace f4 := Lib.hid f4; replace F4 := Lib.hid F4; replace hL := Lib.hid hL; replace hN2 := Lib.hid hN2
  go_wp2_with fail
  go_loopg [4, 5] (N + 1) (fun k v4 v5 wr => ∃ (i : Nat) (out : List (Int × Int)) (bo : Option Nat), k + i = N + 1 ∧ v5 = .int .i64 i ∧ StI n (plcF n) i out ∧ Row 2 wr v4 out.length (pcells out) bo ∧ (∀ z, bo = some z → w4.heap.size ≤ z) ∧ Fr [] w4 wr)
  case atStart => exact ⟨0, [], none, by omega, rfl, S0.out, Row.nil _ _ _, by simp, Fr.refl _ _⟩
  case round =>
    obtain ⟨i, out, bo, hk, rfl, hI, hrw, hnw, hF⟩ := hrel
    obtain ⟨wi, rfl⟩ : ∃ x : World, x = wr := ⟨_, rfl⟩
    obtain ⟨oz, cz, rfl⟩ := hrw.len
    have hle := hI.le
    rw [hN2.out] at hle
    obtain ⟨no, hno⟩ : ∃ x, out.length = x := ⟨_, rfl⟩
    have hol := hI.len
    rw [hno] at hol ⊢
    by_cases hlt : i + 1 < N
    · have hltI : (i : Int) + 1 < N := by omega
      have hltI0 : (i : Int) < N := by omega
      have hi0 : i < N := by omega
      have hi1 : i < (plcF n).length := by have := hN2.out; omega
      have hi2 : i + 1 < (plcF n).length := by have := hN2.out; omega
      obtain ⟨B, off, rfl, hB, a1⟩ := hL.out i hi1
      obtain ⟨B', off', e, _, a2⟩ := hL.out (i + 1) hi2
      cases e
      have gb : (plcF n)[i]? = some (plcF n)[i] := List.getElem?_eq_getElem hi1
      have gc : (plcF n)[i + 1]? = some (plcF n)[i + 1] := List.getElem?_eq_getElem hi2
      obtain ⟨b, hb⟩ : ∃ x, (plcF n)[i] = x := ⟨_, rfl⟩
      obtain ⟨c, hc⟩ : ∃ x, (plcF n)[i + 1] = x := ⟨_, rfl⟩
      rw [hb] at a1 gb
      rw [hc] at a2 gc
      obtain ⟨f1, f2', f3', f4', f5', f6', hjunk⟩ := hI.facts hs.out hi2 gb gc
      clear hjunk
      have x0 : ∀ W, Fr [] w4 W → W.cell? ⟨B, off + i, none⟩ = some (.int .i64 b) ∧ W.cell? ⟨B, off + (i + 1), none⟩ = some (.int .i64 c) ∧ W.cell? ⟨B, off + i + 1, none⟩ = some (.int .i64 c) := fun W f => ⟨by rw [f.cell (p := ⟨B, off + i, none⟩) hB (by simp)]; exact a1, by rw [f.cell (p := ⟨B, off + (i + 1), none⟩) hB (by simp)]; exact a2, by rw [Nat.add_assoc, f.cell (p := ⟨B, off + (i + 1), none⟩) hB (by simp)]; exact a2⟩
      have z0 : ∀ W, Fr [] w1 W → W.cell? ⟨b1, 0, none⟩ = some (.int .i64 op) ∧ W.cell? ⟨b1, 1, none⟩ = some (.int .i64 lo) ∧ W.cell? ⟨b1, 2, none⟩ = some (.int .i64 hi) ∧ W.cell? ⟨b1, 3, none⟩ = some (.slice o K cap) := fun W f => by
        have k := (f.pt P1.out (by simp)).cell
        exact ⟨by rw [k]; rfl, by rw [k]; rfl, by rw [k]; rfl, by rw [k]; rfl⟩
      clear a1 a2
      obtain ⟨z, hz⟩ : ∃ z, n.hold b = z := ⟨_, rfl⟩
      have G := F4.out.trans hF
      have GW := F1.out.trans G
      have CH1 := fun W (f : Fr [] wi W) => CH.out W b (GW.trans f)
      rw [hz] at CH1
      have SS : ∀ W, Fr [] wi W → W.cell? ⟨b1, 0, none⟩ = some (.int .i64 op) ∧ W.cell? ⟨b1, 1, none⟩ = some (.int .i64 lo) ∧ W.cell? ⟨b1, 2, none⟩ = some (.int .i64 hi) ∧ W.cell? ⟨b1, 3, none⟩ = some (.slice o K cap) ∧ W.cell? ⟨B, off + i, none⟩ = some (.int .i64 b) := fun W f => by
        obtain ⟨q1, q2, q3, q4⟩ := z0 W (G.trans f)
        exact ⟨q1, q2, q3, q4, (x0 W (hF.trans f)).1⟩
      have hiw : IntKind.i64.wrap ((i : Int) + 1) = (i : Int) + 1 := IntWalk.i64_in _ (by omega)
      have hi9 : (0 : Int) ≤ (i : Int) + 1 := by omega
      have hin : ((i : Int) + 1).toNat = i + 1 := by omega
      have hwb : IntKind.i64.wrap (b - 1) = b - 1 := IntWalk.i64_in _ (by omega)
      have hwc : IntKind.i64.wrap (c - 1) = c - 1 := IntWalk.i64_in _ (by omega)
      replace hI := Lib.hid hI; replace hrw := Lib.hid hrw; replace hnw := Lib.hid hnw; replace hF := Lib.hid hF; replace gb := Lib.hid gb; replace gc := Lib.hid gc; replace hb := Lib.hid hb; replace hc := Lib.hid hc; replace x0 := Lib.hid x0; replace z0 := Lib.hid z0; replace hz := Lib.hid hz; replace G := Lib.hid G; replace GW := Lib.hid GW; replace CH1 := Lib.hid CH1; replace SS := Lib.hid SS; replace f2' := Lib.hid f2'; replace hno := Lib.hid hno; replace hle := Lib.hid hle
      go_upto_region 6 with fail
      go_region_held3 (fun W => W.cell? ⟨b1, 0, none⟩ = some (.int .i64 op) ∧ W.cell? ⟨b1, 1, none⟩ = some (.int .i64 lo) ∧ W.cell? ⟨b1, 2, none⟩ = some (.int .i64 hi) ∧ W.cell? ⟨b1, 3, none⟩ = some (.slice o K cap) ∧ W.cell? ⟨B, off + i, none⟩ = some (.int .i64 b))
        (first | exact SS.out _ (Fr.refl _ _) | exact SS.out _ (Fr.refl _ _).drew | exact SS.out _ G6.out)
        ((first
          | (go_at_call 28; refine (CH1.out _ (Fr.refl _ _).drew).mono ?_; rintro e w6 ⟨rfl, g6⟩; have G6 := Lib.hid ((((Fr.refl [] wi).drew).trans g6)); replace g6 := Lib.hid g6)))
      have H6 := hF.out.trans G6.out
      cases z
      · as_aux_lemma =>
        have NX := hI.out.skip hs.out hi2 gb.out gc.out hz.out
        have R6 := hrw.out.fr G6.out (by simp)
        replace NX := Lib.hid NX; replace H6 := Lib.hid H6; replace R6 := Lib.hid R6
        go_wp2_with fail
        go_roundg (gk - 1)
        case measure => omega
        case rel => exact ⟨i + 1, _, _, by omega, by go_num, NX.out, hno.out ▸ R6.out, hnw.out, H6.out⟩
      · obtain ⟨y1, y2, y3⟩ := x0.out w6 H6
        have R6 := hrw.out.fr G6.out (by simp)
        have hBl : B < w6.heap.size := by have := H6.size; omega
        -- an append
        have APP : ∀ W, Fr [] w6 W → ∃ v' w9 bo', (Builtin.append_ #[22, 22] 22 #[.slice oz no cz, .slice (some ⟨W.heap.size, 0, none⟩) 1 1]).run Try.prog (W.alloc (.cells #[.int .i64 b, .int .i64 (c - 1)] 51)) = .ok v' w9 ∧ Row 2 w9 v' (out ++ [(b, c - 1)]).length (pcells (out ++ [(b, c - 1)])) bo' ∧ (∀ z, bo' = some z → w4.heap.size ≤ z) ∧ Fr [] w4 w9 := fun W f => by
          obtain ⟨v', w9, bo', h1, h2, h3, h4⟩ := (R6.fr f (by simp)).addP (by have := hno.out; omega) (b, c - 1)
          rw [hno.out] at h1
          refine ⟨v', w9, bo', h1, h2, fun z hz => ?_, (H6.trans f).step h4 (fun z hz => .inr (hnw.out z (by simpa using hz)))⟩
          rcases h3 with e | ⟨z', e, h5⟩
          · exact hnw.out z (by rw [← e]; exact hz)
          · rw [hz] at e; cases e; have := (H6.trans f).size; omega
        rcases List.eq_nil_or_concat out with hout | ⟨pre, r, hout⟩
        · as_aux_lemma =>
          subst hout
          obtain rfl : no = 0 := by have := hno.out; simpa using this.symm
          have NX := hI.out.new hs.out hi2 gb.out gc.out hz.out (fun r hr => by cases hr)
          replace NX := Lib.hid NX; replace H6 := Lib.hid H6; replace R6 := Lib.hid R6; replace APP := Lib.hid APP
          go_wp2_with fail
          go_quiet (fail)
          obtain ⟨w8, hw8⟩ : ∃ x, x = w6.drewN nq := ⟨_, rfl⟩
          rw [← hw8]
          have f8 : Fr [] w6 w8 := by rw [hw8]; exact (Fr.refl _ _).drewN _
          clear hw8
          obtain ⟨t1, t2, t3⟩ := x0.out w8 (H6.out.trans f8)
          obtain ⟨v', w9, bo', happ, r9, n9, G9⟩ := APP.out w8.drew (f8.drew)
          obtain ⟨o1, o2, o3⟩ := x0.out w9 G9
          have O := Lib.hid (And.intro o1 (And.intro o2 o3))
          clear o1 o2 o3 y1 y2 y3
          obtain ⟨wb, hwb⟩ : ∃ m, w8.heap.size = m := ⟨_, rfl⟩
          rw [show w8.drew.heap.size = wb from hwb] at happ
          replace happ := Lib.hid happ; replace r9 := Lib.hid r9; replace n9 := Lib.hid n9; replace G9 := Lib.hid G9; replace f8 := Lib.hid f8
          go_wp2_with fail
          go_region_held3 (fun W => W.cell? ⟨B, off + i, none⟩ = some (.int .i64 b) ∧ W.cell? ⟨B, off + (i + 1), none⟩ = some (.int .i64 c) ∧ W.cell? ⟨B, off + i + 1, none⟩ = some (.int .i64 c))
            (first | go_keep | exact O.out | exact ⟨t1, t2, t3⟩)
            ((first
              | (refine step_append_run rfl _ _ _ rfl (v := .slice oz 0 cz) rfl (xv := .slice (some ⟨wb, 0, none⟩) 1 1) rfl happ.out ?_)))
          go_wp2_with fail
          go_roundg (gk - 1)
          case measure => omega
          case rel => exact ⟨i + 1, _, _, by omega, by go_num, NX.out, r9.out, n9.out, G9.out⟩
        · rw [List.concat_eq_append] at hout
          subst hout
          obtain ⟨p, q⟩ := r
          have hL9 : (pre ++ [(p, q)]).length = pre.length + 1 := by simp
          obtain ⟨m, hm⟩ : ∃ m, pre.length = m := ⟨_, rfl⟩
          obtain ⟨b4, off4, cap4, hbo, e4, hb4, c4, fz4, hjunk⟩ := R6.lastP
          clear hjunk
          obtain ⟨rfl, rfl⟩ : oz = some ⟨b4, off4, none⟩ ∧ cz = cap4 := by injection e4 with a b c; exact ⟨a, c⟩
          clear e4
          subst hbo
          rw [hm] at c4 fz4 hL9
          dsimp only at c4
          have hnm : no = m + 1 := by rw [← hno.out, hL9]
          have hm0 : (0 : Int) < (no : Int) := by omega
          have hm1 : (no : Int) - 1 = (m : Int) := by omega
          have hmN : m < no := by omega
          have hmI : (m : Int) < (no : Int) := by omega
          have d0 := decide_eq_true hm0
          have hm2 : 0 < no := by omega
          have d00 := decide_eq_true hm2
          have hmw : IntKind.i64.wrap (m : Int) = (m : Int) := IntWalk.i64_in _ (by omega)
          have hb4w : w4.heap.size ≤ b4 := hnw.out b4 rfl
          have hset := fun x => fun k => (show Row 2 w6 (.slice (some ⟨b4, off4, none⟩) no cz) (pre ++ [(p, q)]).length (pcells (pre ++ [(p, q)])) (some b4) from by rw [hno.out] at R6 ⊢; exact R6).setLast k x
          rw [hm] at hset
          by_cases hq : q = b - 1
          · as_aux_lemma =>
            subst hq
            have NX := hI.out.more hs.out hi2 gb.out gc.out hz.out
            have hL2 : (pre ++ [(p, c - 1)]).length = no := by rw [hnm, ← hm]; simp
            have G2 : ∀ k, Fr [] w4 ((w6.drewN k).setCell ⟨b4, off4 + m * 2 + 1, none⟩ (.int .i64 (c - 1))) := fun k => (H6.trans ((Fr.refl _ _).drewN k)).setCell (.inr hb4w) _
            have hset := hset (c - 1)
            clear APP
            have hbne : B ≠ b4 := by omega
            replace NX := Lib.hid NX; replace H6 := Lib.hid H6; replace R6 := Lib.hid R6; replace hset := Lib.hid hset; replace hnm := Lib.hid hnm; replace hL9 := Lib.hid hL9; replace hm := Lib.hid hm; replace hL2 := Lib.hid hL2; replace G2 := Lib.hid G2; replace hb4w := Lib.hid hb4w
            go_wp2_with fail
            go_quiet (fail)
            go_wp2_with fail
            go_region
            go_wp2_with fail
            go_roundg (gk - 1)
            case measure => omega
            case rel => exact ⟨i + 1, _, _, by omega, by go_num, NX.out, hset.out _, hnw.out, G2.out _⟩
          · as_aux_lemma =>
            have NX := hI.out.new hs.out hi2 gb.out gc.out hz.out (hI.out.last gb.out hq)
            have e0 : (q == b - 1) = false := by simpa using hq
            clear hset
            replace NX := Lib.hid NX; replace H6 := Lib.hid H6; replace R6 := Lib.hid R6; replace APP := Lib.hid APP; replace hnm := Lib.hid hnm; replace hL9 := Lib.hid hL9; replace hm := Lib.hid hm; replace hb4w := Lib.hid hb4w
            clear hq
            go_wp2_with fail
            go_quiet (fail)
            obtain ⟨w8, hw8⟩ : ∃ x, x = w6.drewN nq := ⟨_, rfl⟩
            rw [← hw8]
            have f8 : Fr [] w6 w8 := by rw [hw8]; exact (Fr.refl _ _).drewN _
            clear hw8
            obtain ⟨t1, t2, t3⟩ := x0.out w8 (H6.out.trans f8)
            obtain ⟨v', w9, bo', happ, r9, n9, G9⟩ := APP.out w8.drew (f8.drew)
            obtain ⟨o1, o2, o3⟩ := x0.out w9 G9
            have O := Lib.hid (And.intro o1 (And.intro o2 o3))
            clear o1 o2 o3 y1 y2 y3
            obtain ⟨wb, hwb⟩ : ∃ m, w8.heap.size = m := ⟨_, rfl⟩
            rw [show w8.drew.heap.size = wb from hwb] at happ
            replace happ := Lib.hid happ; replace r9 := Lib.hid r9; replace n9 := Lib.hid n9; replace G9 := Lib.hid G9; replace f8 := Lib.hid f8
            go_wp2_with fail
            go_region_held3 (fun W => W.cell? ⟨B, off + i, none⟩ = some (.int .i64 b) ∧ W.cell? ⟨B, off + (i + 1), none⟩ = some (.int .i64 c) ∧ W.cell? ⟨B, off + i + 1, none⟩ = some (.int .i64 c))
              (first | go_keep | exact O.out | exact ⟨t1, t2, t3⟩)
              ((first
                | (refine step_append_run rfl _ _ _ rfl (v := .slice (some ⟨b4, off4, none⟩) no cz) rfl (xv := .slice (some ⟨wb, 0, none⟩) 1 1) rfl happ.out ?_)))
            go_wp2_with fail
            go_roundg (gk - 1)
            case measure => omega
            case rel => exact ⟨i + 1, _, _, by omega, by go_num, NX.out, r9.out, n9.out, G9.out⟩
    · have hltI : ¬ (i : Int) + 1 < N := by omega
      obtain ⟨d1, d2⟩ := hI.done hs.out (by have := hN2.out; omega)
      have GO : NewR (fun x => n.hold x = true) w (.returned (.slice oz no cz)) wi := ⟨out, _, rfl, d1, d2, by omega, by rw [← hno]; exact hrw.pinP, F1.out.trans (F4.out.trans hF)⟩
      replace hI := Lib.hid hI; replace hrw := Lib.hid hrw; replace hnw := Lib.hid hnw; replace hF := Lib.hid hF; replace d1 := Lib.hid d1; replace d2 := Lib.hid d2; replace GO := Lib.hid GO; replace hno := Lib.hid hno
      go_wp2_with fail
      go_ret
      exact GO.out
end Go.Proofs.Ytehmfnpiidcbpaa
