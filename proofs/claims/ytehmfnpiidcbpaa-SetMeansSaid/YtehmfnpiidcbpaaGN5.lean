import Derived.Test.YtehmfnpiidcbpaaGN4
namespace Go.Proofs.Ytehmfnpiidcbpaa
open Go.RowKit
set_option linter.unusedVariables false
set_option linter.unusedSimpArgs false
set_option maxHeartbeats 16000000
set_option maxRecDepth 100000
/-! ### value -/
def ValR (n : Nd) (w : World) (e : Ending) (w' : World) : Prop := ∃ L v, e = .returned v ∧ VaL n L ∧ PInB (fun z => w.heap.size ≤ z) w' v L ∧ Fr [] w w'
theorem VaL.ends {n : Nd} {L : List (Int × Int)} (h : VaL n L) (hs : n.sh = true) : ∀ r ∈ L, r.1 ≤ r.2 ∧ -1000000000000000 ≤ r.1 ∧ r.2 ≤ 1000000000000000 := fun r hr => by
  have h1 := h.nf.1 r hr
  have a := hold_bd r.1 n.nodes n (Nat.le_refl _) hs ((h.num r.1).1 ⟨r, hr, Int.le_refl _, h1⟩)
  have b := hold_bd r.2 n.nodes n (Nat.le_refl _) hs ((h.num r.2).1 ⟨r, hr, h1, Int.le_refl _⟩)
  exact ⟨h1, a.1, b.2⟩
theorem VaL.bd {n : Nd} {L : List (Int × Int)} (h : VaL n L) (hs : n.sh = true) : Bd L := fun x hx => hold_bd x n.nodes n (Nat.le_refl _) hs ((h.num x).1 hx)
theorem Nf.one {a b : Int} (h : a ≤ b) : Nf [(a, b)] := ⟨by simpa using h, by simp⟩
theorem inS_one (a b x : Int) : inS [(a, b)] x ↔ a ≤ x ∧ x ≤ b := by simp [inS]
theorem VaL.span {n : Nd} (h0 : n.op = 0) (hs : n.sh = true) : VaL n [(n.lo, n.hi)] := by
  have h := sh_span hs h0
  refine ⟨Nf.one h.2.1, fun x => ?_, by have := nodes_pos n; simpa using this⟩
  rw [inS_one, n.hold_eq, if_pos h0]; simp
theorem VaL.every {n : Nd} (h4 : n.op = 4) : VaL n [(-1000000000000000, 1000000000000000)] := by
  refine ⟨Nf.one (by omega), fun x => ?_, by have := nodes_pos n; simpa using this⟩
  rw [inS_one, n.hold_eq, if_neg (by omega), if_neg (by omega), if_neg (by omega), if_neg (by omega), if_neg (by omega)]; simp
theorem kids_get (n : Nd) (x : Int) (i : Nat) (h : i < n.kids.length) : (n.kids.map (Nd.hold x)).getD i false = n.kids[i].hold x := by
  rw [List.getD_eq_getElem?_getD, List.getElem?_map, List.getElem?_eq_getElem h]; rfl
theorem VaL.marked {n : Nd} (h5 : n.op = 5) (hk : 0 < n.kids.length) {L : List (Int × Int)} (h : VaL n.kids[0] L) : VaL n L := by
  refine ⟨h.nf, fun x => ?_, by have := h.len; have := kid_lt hk; omega⟩
  rw [h.num, n.hold_eq, if_neg (by omega), if_neg (by omega), if_neg (by omega), if_neg (by omega), if_pos h5, kids_get n x 0 hk]
theorem VaL.except {n : Nd} (h3 : n.op = 3) (hk : n.kids.length = 2) {a b : List (Int × Int)} (ha : VaL (n.kids[0]'(by omega)) a) (hb : VaL (n.kids[1]'(by omega)) b) (hs : n.sh = true) :
    VaL n (comF (a.length + (outF (-1000000000000000) b).length) a (outF (-1000000000000000) b)) := by
  have bb := hb.bd (sh_kid hs (List.getElem_mem _))
  have ba := ha.bd (sh_kid hs (List.getElem_mem _))
  obtain ⟨o1, o2⟩ := outF_law b (-1000000000000000) hb.nf (fun x hx => bb x hx)
  have o3 := outF_len b (-1000000000000000)
  obtain ⟨n1, n2⟩ := comF_law (a.length + (outF (-1000000000000000) b).length) a _ (Nat.le_refl _) ha.nf o1
  refine ⟨n1, fun x => ?_, ?_⟩
  · rw [n2, o2, n.hold_eq, if_neg (by omega), if_neg (by omega), if_neg (by omega), if_pos h3, kids_get n x 0 (by omega), kids_get n x 1 (by omega), ha.num, hb.num]
    constructor
    · rintro ⟨h1, _, _, h4⟩; rw [h1]; simpa using h4
    · intro h
      rw [Bool.and_eq_true] at h
      have hx := ba x ((ha.num x).2 h.1)
      exact ⟨h.1, hx.1, hx.2, by simpa using h.2⟩
  · have l1 := comF_len (a.length + (outF (-1000000000000000) b).length) a (outF (-1000000000000000) b)
    have l2 := ha.len
    have l3 := hb.len
    have l4 : nodesL (n.kids.take 1) = nodesL (n.kids.take 0) + (n.kids[0]'(by omega)).nodes := nodesL_take n.kids 0 (by omega)
    have l5 : nodesL (n.kids.take 2) = nodesL (n.kids.take 1) + (n.kids[1]'(by omega)).nodes := nodesL_take n.kids 1 (by omega)
    have l6 := nodesL_take_le n.kids 2
    have l7 := n.nodes_eq
    omega
theorem ValI.catNum {w : World} {n : Nd} {ps : List (Value × List (Int × Int))} {wr : World} {v : Value} {bo : Option Nat} (h : ValI w n ps wr v bo) (x : Int) : ∀ i, i ≤ ps.length → (inS (catL ps i) x ↔ (n.kids.take i).any (Nd.hold x) = true)
  | 0, _ => by simp [catL, inS]
  | i + 1, hi => by
    have ih := ValI.catNum h x i (by omega)
    have hl := h.len
    rw [catL_succ ps i (by omega), inS_app, ih, List.take_succ_eq_append_getElem (show i < n.kids.length by omega), List.any_append, (h.el i (by omega) (by omega)).1.num, Bool.or_eq_true]
    simp
theorem ValI.catEnds {w : World} {n : Nd} {ps : List (Value × List (Int × Int))} {wr : World} {v : Value} {bo : Option Nat} (h : ValI w n ps wr v bo) (hs : n.sh = true) : ∀ r ∈ catL ps ps.length, r.1 ≤ r.2 ∧ -1000000000000000 ≤ r.1 ∧ r.2 ≤ 1000000000000000 := fun r hr => by
  unfold catL at hr
  rw [List.take_length] at hr
  obtain ⟨p, hp, hr2⟩ := List.mem_flatMap.1 hr
  obtain ⟨i, hi, rfl⟩ := List.getElem_of_mem hp
  have hl := h.len
  exact (h.el i hi (by omega)).1.ends (sh_kid hs (List.getElem_mem _)) r hr2
theorem VaL.union {n : Nd} (h1 : n.op = 1) {ps : List (Value × List (Int × Int))} {w wr : World} {v : Value} {bo : Option Nat} (h : ValI w n ps wr v bo) (hK : ps.length = n.kids.length) {L : List (Int × Int)} (hn : Nf L) (hx : ∀ x, inS L x ↔ inS (catL ps ps.length) x) (hl : L.length ≤ (catL ps ps.length).length) : VaL n L := by
  refine ⟨hn, fun x => ?_, ?_⟩
  · rw [hx, h.catNum x _ (Nat.le_refl _), hK, List.take_length, n.hold_eq, if_neg (by omega), if_pos h1]
  · have := h.cat _ (Nat.le_refl _); have := nodesL_take_le n.kids ps.length; have := n.nodes_eq; omega
/-- value's way through a meeting. -/
structure MeetI (n : Nd) (j : Nat) (L : List (Int × Int)) : Prop where
  nf : Nf L
  num : ∀ x, inS L x ↔ (n.kids.take (j + 1)).all (Nd.hold x) = true
  len : L.length ≤ nodesL (n.kids.take (j + 1))
theorem MeetI.start {n : Nd} (hk : 0 < n.kids.length) {L : List (Int × Int)} (h : VaL n.kids[0] L) : MeetI n 0 L := by
  refine ⟨h.nf, fun x => ?_, ?_⟩
  · rw [h.num, List.take_succ_eq_append_getElem hk]; simp
  · have := h.len; rw [nodesL_take n.kids 0 hk]; omega
theorem MeetI.next {n : Nd} {j : Nat} {L M : List (Int × Int)} (h : MeetI n j L) (hk : j + 1 < n.kids.length) (hM : VaL n.kids[j + 1] M) : MeetI n (j + 1) (comF (L.length + M.length) L M) := by
  obtain ⟨n1, n2⟩ := comF_law (L.length + M.length) L M (Nat.le_refl _) h.nf hM.nf
  refine ⟨n1, fun x => ?_, ?_⟩
  · rw [n2, h.num, hM.num, List.take_succ_eq_append_getElem hk, List.all_append, Bool.and_eq_true]; simp
  · have := comF_len (L.length + M.length) L M
    have := h.len; have := hM.len
    rw [nodesL_take n.kids (j + 1) hk]; omega
theorem MeetI.done {n : Nd} {L : List (Int × Int)} {j : Nat} (h : MeetI n j L) (h2 : n.op = 2) (hj : j + 1 = n.kids.length) : VaL n L := by
  refine ⟨h.nf, fun x => ?_, ?_⟩
  · rw [h.num, hj, List.take_length, n.hold_eq, if_neg (by omega), if_neg (by omega), if_pos h2]
  · have := h.len; have := nodesL_take_le n.kids (j + 1); have := n.nodes_eq; omega
theorem RowR.pinb {w : World} {L : List (Int × Int)} {e : Ending} {w' : World} (h : RowR w L e w') : ∃ v, e = .returned v ∧ PInB (fun z => w.heap.size ≤ z) w' v L ∧ Fr [] w w' := by
  obtain ⟨v, bo, h1, h2, h3, h4⟩ := h
  exact ⟨v, h1, h2.pinb h3, h4⟩
theorem PInB.low {w w0 : World} {v : Value} {l : List (Int × Int)} {W : World} (h : PInB (fun z => w.heap.size ≤ z) W v l) (hs : w0.heap.size ≤ w.heap.size) : PInB (fun z => w0.heap.size ≤ z) W v l :=
  h.fr (Fr.refl [] W) (fun b _ hq => ⟨by simp, Nat.le_trans hs hq⟩)
theorem PInB.slice {q : Nat → Prop} {w : World} {v : Value} {l : List (Int × Int)} (h : PInB q w v l) : ∃ o cap, v = .slice o l.length cap := by obtain ⟨o, cap, e, _⟩ := h; exact ⟨o, cap, e⟩
theorem value_any : ∀ (M : Nat) (n : Nd) (w : World) (v : Value), n.nodes ≤ M → M ≤ 1000 → n.sh = true → NI w n v →
    Calls Try.prog 45 #[v] w (ValR n w)
  | 0, n, w, v, hN, _, _, _ => by have := nodes_pos n; omega
  | M + 1, n, w, v, hN, hM, hs, hv => by
    have ih := fun (i : Nat) (hi : i < n.kids.length) W s (h : NI W n.kids[i] s) => value_any M n.kids[i] W s (by have := kid_lt hi; omega) (by omega) (sh_kid hs (List.getElem_mem hi)) h
    obtain ⟨o, cap, rfl, hl⟩ := hv.open
    have e3 := nodesL_len n.kids
    have e4 := n.nodes_eq
    have hNb : n.nodes ≤ 1000 := by omega
    clear hv hN hM
    obtain ⟨op, hop⟩ : ∃ x, n.op = x := ⟨_, rfl⟩
    obtain ⟨lo, hlo⟩ : ∃ x, n.lo = x := ⟨_, rfl⟩
    obtain ⟨hi, hhi⟩ : ∃ x, n.hi = x := ⟨_, rfl⟩
    obtain ⟨K, hK⟩ : ∃ x, n.kids.length = x := ⟨_, rfl⟩
    rw [hop, hlo, hhi, hK]
    rw [hK] at e3
    have hKb : K ≤ 1000 := by omega
    clear e3 e4
    obtain ⟨w1, hw1⟩ : ∃ x, w.alloc (.cells #[.int .i64 op, .int .i64 lo, .int .i64 hi, .slice o K cap] 46) = x := ⟨_, rfl⟩
    have P1 := Pt.newA w 46 #[.int .i64 op, .int .i64 lo, .int .i64 hi, .slice o K cap]
    rw [hw1] at P1
    have F1 : Fr [] w w1 := by rw [← hw1]; exact (Fr.refl [] w).alloc _
    obtain ⟨b1, hb1⟩ : ∃ x, w.heap.size = x := ⟨_, rfl⟩
    rw [hb1] at P1
    have k1 := P1.cell
    have I0 := ValI.start w1 n
    have hlz := F1.size
    replace ih := Lib.hid ih; replace hl := Lib.hid hl; replace hop := Lib.hid hop; replace hlo := Lib.hid hlo; replace hhi := Lib.hid hhi; replace hK := Lib.hid hK; replace hs := Lib.hid hs; replace P1 := Lib.hid P1; replace F1 := Lib.hid F1; replace I0 := Lib.hid I0; replace hNb := Lib.hid hNb; replace hlz := Lib.hid hlz
    go_enter Try.func45, Try.ntmps45
    go_wp2_with fail
    go_loopg [3, 12] (K + 1) (fun k v3 v12 wr => ∃ (i : Nat) (ps : List (Value × List (Int × Int))) (b3 : Option Nat), i ≤ K ∧ k + i = K + 1 ∧ v12 = .int .i64 i ∧ ps.length = i ∧ ValI w1 n ps wr v3 b3)
    case atStart => exact ⟨0, [], none, by omega, by omega, rfl, rfl, I0.out⟩
    case round =>
      obtain ⟨i, ps, b3, hi2, hk, rfl, hps, hI⟩ := hrel
      obtain ⟨wi, rfl⟩ : ∃ x : World, x = wr := ⟨_, rfl⟩
      obtain ⟨o3, c3, hv3⟩ := hI.row.len
      rw [List.length_map, hps] at hv3
      subst hv3
      have hF := F1.out.trans hI.fr
      by_cases hlt : i < K
      · as_aux_lemma =>
        have hltI : (i : Int) < K := by omega
        have hil : i < n.kids.length := by have := hK.out; omega
        obtain ⟨B, off, s, rfl, hB, _, a1, a2, a3, a4, hkid⟩ := hl.out i hil
        have x1 := hF.cell (p := ⟨B, off + i * 4, none⟩) hB (by simp)
        have x2 := hF.cell (p := ⟨B, off + i * 4 + 1, none⟩) hB (by simp)
        have x3 := hF.cell (p := ⟨B, off + i * 4 + 2, none⟩) hB (by simp)
        have x4 := hF.cell (p := ⟨B, off + i * 4 + 3, none⟩) hB (by simp)
        rw [a1] at x1
        rw [a2] at x2
        rw [a3] at x3
        rw [a4] at x4
        clear a1 a2 a3 a4
        obtain ⟨so, sL, sc, rfl⟩ := hkid.sl
        obtain ⟨kop, hkop⟩ : ∃ x, n.kids[i].op = x := ⟨_, rfl⟩
        obtain ⟨klo, hklo⟩ : ∃ x, n.kids[i].lo = x := ⟨_, rfl⟩
        obtain ⟨khi, hkhi⟩ : ∃ x, n.kids[i].hi = x := ⟨_, rfl⟩
        rw [hkop] at x1 hkid
        rw [hklo] at x2 hkid
        rw [hkhi] at x3 hkid
        obtain ⟨w2, hw2⟩ : ∃ x, wi.alloc (.cells #[.int .i64 kop, .int .i64 klo, .int .i64 khi, .slice so sL sc] 46) = x := ⟨_, rfl⟩
        have P2 := Pt.newA wi 46 #[.int .i64 kop, .int .i64 klo, .int .i64 khi, .slice so sL sc]
        rw [hw2] at P2
        have F2 : Fr [] wi w2 := by rw [← hw2]; exact (Fr.refl [] wi).alloc _
        obtain ⟨b2, hb2⟩ : ∃ x, wi.heap.size = x := ⟨_, rfl⟩
        rw [hb2] at P2
        have k2 := P2.cell
        have F3 := hF.trans F2
        have C := ih.out i hil w2 _ (hkid.go F3)
        have hps2 := Lib.hid hps
        clear hps
        replace hI := Lib.hid hI; replace hkop := Lib.hid hkop; replace hklo := Lib.hid hklo; replace hkhi := Lib.hid hkhi; replace hF := Lib.hid hF; replace P2 := Lib.hid P2; replace F2 := Lib.hid F2; replace F3 := Lib.hid F3; replace C := Lib.hid C; replace hkid := Lib.hid hkid
        go_wp2_with fail
        refine (C.out).mono ?_
        rintro e w3 ⟨L, vL, rfl, hVa, hPi, f3⟩
        have hs2 : wi.heap.size ≤ w2.heap.size := F2.out.size
        have hVa' : ∀ h, VaL (n.kids[ps.length]'h) L := fun h => by
          have e := hps2.out
          subst e
          exact hVa
        obtain ⟨v4, w4, b4, happ, hI4⟩ := hI.out.put (by have := hNb.out; omega) (by have := hps2.out; omega) (F2.out.trans f3) (hVa' _) (hPi.low hs2)
        obtain ⟨oL, cL, rfl⟩ := hPi.slice
        have hlen4 : (ps ++ [(Value.slice oL L.length cL, L)]).length = i + 1 := by rw [List.length_append, hps2.out]; rfl
        replace hVa := Lib.hid hVa; replace hPi := Lib.hid hPi; replace f3 := Lib.hid f3; replace hs2 := Lib.hid hs2; replace hVa' := Lib.hid hVa'; replace happ := Lib.hid happ; replace hI4 := Lib.hid hI4; replace hlen4 := Lib.hid hlen4
        go_wp2_with (first | (at_builtin; refine wpList_append_run _ rfl _ _ _ rfl rfl rfl happ.out ?_))
        go_roundg (gk - 1)
        case measure => omega
        case rel => exact ⟨i + 1, _, _, by omega, by omega, by go_num, hlen4.out, hI4.out⟩
      · obtain rfl : i = K := by omega
        have hltI : ¬ (i : Int) < (i : Int) := by omega
        have k3 := (hI.fr.pt P1.out (by simp)).cell
        have hsi := hI.fr.size
        have hsz : w.heap.size ≤ wi.heap.size := hF.size
        rcases sh_op hs.out with h | h | h | h | h | h
        · as_aux_lemma =>
          obtain rfl : op = 0 := by rw [← hop.out]; exact h
          have HV := VaL.span h hs.out
          rw [hlo.out, hhi.out] at HV
          have GO : ValR n w (.returned (.slice (some ⟨wi.heap.size, 0, none⟩) 1 1)) (wi.alloc (.cells #[.int .i64 lo, .int .i64 hi] 51)) := by
            have P9 := Pt.newA wi 51 #[.int .i64 lo, .int .i64 hi]
            refine ⟨_, _, rfl, HV, ⟨_, 1, rfl, fun j hj => ?_⟩, hF.alloc _⟩
            obtain rfl : j = 0 := by simp at hj; omega
            refine ⟨_, 0, rfl, P9.lt, hsz, ?_, ?_⟩ <;> rw [P9.cell] <;> rfl
          replace hI := Lib.hid hI; replace hF := Lib.hid hF; replace hps := Lib.hid hps; replace h := Lib.hid h; replace HV := Lib.hid HV; replace GO := Lib.hid GO
          clear hsi hsz
          go_wp2_with fail
          go_ret
          exact GO.out
        · as_aux_lemma =>
          obtain rfl : op = 1 := by rw [← hop.out]; exact h
          have CC := concat_any _ ps wi hI.ls (by omega) (fun j hj => by have := hI.cat j hj; have := nodesL_take_le n.kids j; have := n.nodes_eq; have := hNb.out; omega) (fun p hp => by
            obtain ⟨j, hj, rfl⟩ := List.getElem_of_mem hp
            have hl2 := hI.len
            have := (hI.el j hj (by omega)).1.len
            have := kid_lt (n := n) (i := j) (by omega)
            have := hNb.out; omega)
          have hcl := hI.cat _ (Nat.le_refl _)
          have hcl2 := nodesL_take_le n.kids ps.length
          have hcl3 := n.nodes_eq
          have hce := hI.catEnds hs.out
          replace hI := Lib.hid hI; replace hF := Lib.hid hF; replace hps := Lib.hid hps; replace h := Lib.hid h; replace CC := Lib.hid CC; replace hcl := Lib.hid hcl; replace hcl2 := Lib.hid hcl2; replace hcl3 := Lib.hid hcl3; replace hce := Lib.hid hce; replace hsi := Lib.hid hsi; replace hsz := Lib.hid hsz
          go_wp2_with fail
          refine (CC.out).mono ?_
          rintro e w2 ⟨v2, b2, rfl, hr2, hb2, f2⟩
          have TI := tidy_any v2 _ b2 w2 hr2 (by have := hcl.out; have := hcl2.out; have := hcl3.out; have := hNb.out; omega) hce.out
          replace hr2 := Lib.hid hr2; replace hb2 := Lib.hid hb2; replace f2 := Lib.hid f2; replace TI := Lib.hid TI
          go_wp2_with fail
          refine (TI.out).mono ?_
          rintro e w3 ⟨L, v3, b3, rfl, n3, m3, l3, r3, z3, f3⟩
          have HV := VaL.union h.out hI.out (by have := hps.out; have := hK.out; omega) n3 m3 l3
          have GO : ValR n w (.returned v3) w3 := ⟨L, v3, rfl, HV, (r3.pinb z3).low (by have := f2.out.size; have := hsz.out; omega), (hF.out.trans f2.out).step f3 (fun z hz => .inr (by
            have := hb2.out z (by simpa using hz); have := hsz.out; omega))⟩
          replace n3 := Lib.hid n3; replace m3 := Lib.hid m3; replace l3 := Lib.hid l3; replace r3 := Lib.hid r3; replace z3 := Lib.hid z3; replace f3 := Lib.hid f3; replace HV := Lib.hid HV; replace GO := Lib.hid GO
          go_wp2_with fail
          go_ret
          exact GO.out
        · as_aux_lemma =>
          obtain rfl : op = 2 := by rw [← hop.out]; exact h
          have hk2 := (sh_kids hs.out (by omega)).1
          rw [h, kidsOk_12 _ _ (.inr rfl), hK.out, decide_eq_true_eq] at hk2
          have hcap : i ≤ c3 := by
            rcases hI.row with ⟨_, e, _⟩ | ⟨_, _, _, _, e, h3, _⟩
            · rw [List.length_map] at e; omega
            · cases e; rw [List.length_map] at h3; omega
          obtain ⟨o', cap', e', hcs⟩ := hI.ls.row
          obtain ⟨rfl, rfl⟩ : o3 = o' ∧ c3 = cap' := by injection e' with a b c; exact ⟨a, c⟩
          clear e'
          have hp0 : 0 < ps.length := by omega
          have hk0 : 0 < n.kids.length := by have := hK.out; omega
          obtain ⟨bq, oq, rfl, hbq, c0⟩ := hcs 0 hp0
          have hcj : ∀ j (hj : j < ps.length), wi.cell? ⟨bq, oq + j, none⟩ = some ps[j].1 := fun j hj => by
            obtain ⟨b', off', e, _, c⟩ := hcs j hj
            cases e
            exact c
          obtain ⟨V0, hV0, hq0⟩ : ∃ u, ps[0].1 = u ∧ PInB (fun z => w.heap.size ≤ z) wi u ps[0].2 := ⟨_, rfl, (hI.el 0 hp0 hk0).2.fr (Fr.refl [] wi) (fun b _ hq => ⟨by simp, by have := hlz.out; omega⟩)⟩
          obtain ⟨ou, cu, rfl⟩ := hq0.slice
          have M0 := MeetI.start (n := n) hk0 (hI.el 0 hp0 hk0).1
          rw [hV0] at c0
          simp only [Nat.add_zero] at c0
          obtain ⟨m, hm⟩ : ∃ m, i - 1 = m := ⟨_, rfl⟩
          have g1 : (1 : Int) ≤ (i : Int) := by omega
          have g2 : 1 < c3 := by omega
          have g3 : (1 : Int) < (c3 : Int) := by omega
          have g4 : c3 ≠ 1 := by omega
          have g5 : (1 : Int) ≤ (c3 : Int) := by omega
          have g6 : 1 ≤ i := by omega
          have hmi : m + 1 = i := by omega
          have hps2 := Lib.hid hps
          clear hps
          replace hI := Lib.hid hI; replace hF := Lib.hid hF; replace h := Lib.hid h; replace hcs := Lib.hid hcs; replace hcj := Lib.hid hcj; replace hq0 := Lib.hid hq0; replace M0 := Lib.hid M0; replace hV0 := Lib.hid hV0; replace hsi := Lib.hid hsi; replace hsz := Lib.hid hsz; replace hmi := Lib.hid hmi
          clear hk2
          go_wp2_with fail
          go_loopg [6, 45] (m + 1) (fun k v6 v45 wr => ∃ (j : Nat) (L : List (Int × Int)), j ≤ m ∧ k + j = m + 1 ∧ v45 = .int .i64 j ∧ MeetI n j L ∧ PInB (fun z => w.heap.size ≤ z) wr v6 L ∧ Fr [] wi wr)
          case atStart => exact ⟨0, _, by omega, by omega, rfl, M0.out, hq0.out, Fr.refl _ _⟩
          case round =>
            obtain ⟨j, L, hj, hk9, rfl, hMI, hPL, hF9⟩ := hrel
            obtain ⟨wj, rfl⟩ : ∃ x : World, x = wr := ⟨_, rfl⟩
            obtain ⟨o6, c6, rfl⟩ := hPL.slice
            obtain ⟨n6, hn6⟩ : ∃ x, L.length = x := ⟨_, rfl⟩
            rw [hn6]
            by_cases hlt2 : j < m
            · have hltJ : (j : Int) < m := by omega
              have hjp : j + 1 < ps.length := by have := hmi.out; have := hps2.out; omega
              have hjk : j + 1 < n.kids.length := by have := hK.out; have := hps2.out; omega
              have c1 := (hF9.cell (p := ⟨bq, oq + (j + 1), none⟩) hbq (by simp)).trans (hcj.out (j + 1) hjp)
              have E1 := hI.out.el (j + 1) hjp hjk
              have N1 := hMI.next hjk E1.1
              have p2 := E1.2.pin.fr hF9
              have l1 := E1.1.len
              have l2 := hMI.len
              have l3 := nodesL_take_le n.kids (j + 1)
              have l4 := n.nodes_eq
              have l5 := kid_lt hjk
              have CM := common_any _ _ L ps[j + 1].2 wj hPL.pin p2 (by have := hNb.out; omega) (by have := hNb.out; omega)
              obtain ⟨o7, c7, e7⟩ := E1.2.slice
              obtain ⟨n7, hn7⟩ : ∃ x, ps[j + 1].2.length = x := ⟨_, rfl⟩
              rw [e7] at c1 CM
              rw [hn7] at c1 CM N1
              rw [hn6] at CM N1
              rw [← Nat.add_assoc, Nat.add_right_comm] at c1
              have c1' := c1
              rw [Nat.add_right_comm] at c1'
              clear l1 l2 l3 l4 l5
              replace hMI := Lib.hid hMI; replace hPL := Lib.hid hPL; replace hF9 := Lib.hid hF9; replace E1 := Lib.hid E1; replace N1 := Lib.hid N1; replace p2 := Lib.hid p2; replace CM := Lib.hid CM; replace hn6 := Lib.hid hn6; replace hn7 := Lib.hid hn7; replace e7 := Lib.hid e7
              go_wp2_with fail
              refine (CM.out).mono ?_
              intro e w8 h8
              obtain ⟨v8, rfl, p8, f8⟩ := h8.pinb
              have G8 := hF9.out.trans f8
              have p8' := p8.low (w0 := w) (by have := hF9.out.size; have := hsz.out; omega)
              replace h8 := Lib.hid h8; replace p8 := Lib.hid p8; replace f8 := Lib.hid f8; replace G8 := Lib.hid G8; replace p8' := Lib.hid p8'
              go_wp2_with fail
              go_roundg (gk - 1)
              case measure => omega
              case rel => exact ⟨j + 1, _, by omega, by omega, by go_num, N1.out, p8'.out, G8.out⟩
            · obtain rfl : j = m := by omega
              have hltJ : ¬ (j : Int) < (j : Int) := by omega
              have HV := hMI.done h.out (by have := hmi.out; have := hK.out; omega)
              have GO : ValR n w (.returned (.slice o6 n6 c6)) wj := ⟨L, _, rfl, HV, hn6 ▸ hPL, hF.out.trans hF9⟩
              replace hMI := Lib.hid hMI; replace hPL := Lib.hid hPL; replace hF9 := Lib.hid hF9; replace HV := Lib.hid HV; replace GO := Lib.hid GO; replace hn6 := Lib.hid hn6
              go_wp2_with fail
              go_ret
              exact GO.out
        · as_aux_lemma =>
          obtain rfl : op = 3 := by rw [← hop.out]; exact h
          have hk2 := (sh_kids hs.out (by omega)).1
          rw [h, kidsOk_3, hK.out, decide_eq_true_eq] at hk2
          subst hk2
          have e0 := hI.el 0 (by omega) (by have := hK.out; omega)
          have e1 := hI.el 1 (by omega) (by have := hK.out; omega)
          have HV := VaL.except h hK.out e0.1 e1.1 hs.out
          have en1 := e1.1.ends (sh_kid hs.out (List.getElem_mem _))
          have l0 : ps[0].2.length ≤ 1000 := by have := e0.1.len; have := kid_lt (n := n) (i := 0) (by have := hK.out; omega); have := hNb.out; omega
          have l1 : ps[1].2.length ≤ 1000 := by have := e1.1.len; have := kid_lt (n := n) (i := 1) (by have := hK.out; omega); have := hNb.out; omega
          have l2 := outF_len ps[1].2 (-1000000000000000)
          have CO := fun W (f : Fr [] wi W) => outside_any ps[1].1 ps[1].2 W (e1.2.pin.fr f) (by omega) (fun r hr => by have := en1 r hr; omega)
          have CM := fun W vO (f : Fr [] wi W) (hp : PIn W vO (outF (-1000000000000000) ps[1].2)) => common_any ps[0].1 vO ps[0].2 _ W (e0.2.pin.fr f) hp (by omega) (by omega)
          obtain ⟨o', cap', e', hcs⟩ := hI.ls.row
          obtain ⟨rfl, rfl⟩ : o3 = o' ∧ c3 = cap' := by injection e' with a b c; exact ⟨a, c⟩
          clear e'
          have hp0 : 0 < ps.length := by omega
          have hk0 : 0 < n.kids.length := by have := hK.out; omega
          obtain ⟨bq, oq, rfl, hbq, c0⟩ := hcs 0 hp0
          obtain ⟨bq', oq', e, _, c1⟩ := hcs 1 (by omega)
          cases e
          obtain ⟨u0, hu0⟩ : ∃ u, ps[0].1 = u := ⟨_, rfl⟩
          obtain ⟨u1, hu1⟩ : ∃ u, ps[1].1 = u := ⟨_, rfl⟩
          rw [hu0] at c0 CM
          rw [hu1] at c1 CO
          simp only [Nat.add_zero] at c0
          have SS : ∀ W, Fr [] wi W → W.cell? ⟨bq, oq, none⟩ = some u0 ∧ W.cell? ⟨bq, oq + 1, none⟩ = some u1 := fun W f => ⟨by rw [f.cell (p := ⟨bq, oq, none⟩) hbq (by simp)]; exact c0, by rw [f.cell (p := ⟨bq, oq + 1, none⟩) hbq (by simp)]; exact c1⟩
          replace hI := Lib.hid hI; replace hF := Lib.hid hF; replace hps := Lib.hid hps; replace h := Lib.hid h; replace HV := Lib.hid HV; replace CO := Lib.hid CO; replace CM := Lib.hid CM; replace e0 := Lib.hid e0; replace e1 := Lib.hid e1; replace en1 := Lib.hid en1; replace hu0 := Lib.hid hu0; replace hu1 := Lib.hid hu1; replace hcs := Lib.hid hcs; replace SS := Lib.hid SS; replace l0 := Lib.hid l0; replace l1 := Lib.hid l1; replace l2 := Lib.hid l2; replace hsi := Lib.hid hsi; replace hsz := Lib.hid hsz
          go_wp2_with fail
          go_region_held3 (fun W => W.cell? ⟨bq, oq, none⟩ = some u0 ∧ W.cell? ⟨bq, oq + 1, none⟩ = some u1)
            (first | exact SS.out _ (Fr.refl _ _) | exact SS.out _ (Fr.refl _ _).drew | exact SS.out _ G6.out | exact SS.out _ G7.out)
            ((first
              | (go_at_call 36; refine (CO.out _ (Fr.refl _ _).drew).mono ?_; rintro e w6 ⟨v6, b6, rfl, r6, n6, g6⟩; have G6 := Lib.hid ((((Fr.refl [] wi).drew).trans g6)); replace r6 := Lib.hid r6; replace n6 := Lib.hid n6; replace g6 := Lib.hid g6)
              | (go_at_call 34; refine (CM.out _ _ G6.out r6.out.pinP).mono ?_; rintro e w7 ⟨v7, b7, rfl, r7, n7, g7⟩; have G7 := Lib.hid ((G6.out.trans g7)); replace r7 := Lib.hid r7; replace n7 := Lib.hid n7; replace g7 := Lib.hid g7)))
          have GO : ValR n w (.returned v7) w7 := ⟨_, v7, rfl, HV.out, (r7.out.pinb n7.out).low (by have := hsz.out; have := G6.out.size; omega), hF.out.trans G7.out⟩
          replace GO := Lib.hid GO
          go_wp2_with fail
          go_ret
          exact GO.out
        · as_aux_lemma =>
          obtain rfl : op = 4 := by rw [← hop.out]; exact h
          have HV := VaL.every h
          have GO : ValR n w (.returned (.slice (some ⟨wi.heap.size, 0, none⟩) 1 1)) (wi.alloc (.cells #[.int .i64 (-1000000000000000), .int .i64 1000000000000000] 51)) := by
            have P9 := Pt.newA wi 51 #[.int .i64 (-1000000000000000), .int .i64 1000000000000000]
            refine ⟨_, _, rfl, HV, ⟨_, 1, rfl, fun j hj => ?_⟩, hF.alloc _⟩
            obtain rfl : j = 0 := by simp at hj; omega
            refine ⟨_, 0, rfl, P9.lt, hsz, ?_, ?_⟩ <;> rw [P9.cell] <;> rfl
          replace hI := Lib.hid hI; replace hF := Lib.hid hF; replace hps := Lib.hid hps; replace h := Lib.hid h; replace HV := Lib.hid HV; replace GO := Lib.hid GO
          clear hsi hsz
          go_wp2_with fail
          go_ret
          exact GO.out
        · as_aux_lemma =>
          obtain rfl : op = 5 := by rw [← hop.out]; exact h
          have hk2 := (sh_kids hs.out (by omega)).1
          rw [h, kidsOk_5, hK.out, decide_eq_true_eq] at hk2
          subst hk2
          have e0 := hI.el 0 (by omega) (by have := hK.out; omega)
          have HV := VaL.marked h (by have := hK.out; omega) e0.1
          obtain ⟨o', cap', e', hcs⟩ := hI.ls.row
          obtain ⟨rfl, rfl⟩ : o3 = o' ∧ c3 = cap' := by injection e' with a b c; exact ⟨a, c⟩
          clear e'
          have hp0 : 0 < ps.length := by omega
          have hk0 : 0 < n.kids.length := by have := hK.out; omega
          obtain ⟨bq, oq, rfl, hbq, c0⟩ := hcs 0 hp0
          have GO : ValR n w (.returned ps[0].1) wi := ⟨_, _, rfl, HV, e0.2.fr (Fr.refl [] wi) (fun b _ hq => ⟨by simp, by have := hlz.out; omega⟩), hF⟩
          obtain ⟨u0, hu0⟩ : ∃ u, ps[0].1 = u := ⟨_, rfl⟩
          rw [hu0] at c0 GO
          simp only [Nat.add_zero] at c0
          replace hI := Lib.hid hI; replace hF := Lib.hid hF; replace hps := Lib.hid hps; replace h := Lib.hid h; replace HV := Lib.hid HV; replace e0 := Lib.hid e0; replace hu0 := Lib.hid hu0; replace hcs := Lib.hid hcs; replace GO := Lib.hid GO; replace hsi := Lib.hid hsi; replace hsz := Lib.hid hsz
          go_wp2_with fail
          go_ret
          exact GO.out
end Go.Proofs.Ytehmfnpiidcbpaa
