import Derived.Test.YtehmfnpiidcbpaaGN2
import Derived.Deep.CutRange
import Derived.Deep.CutBlock
namespace Go.Proofs.Ytehmfnpiidcbpaa
open Go.RowKit
set_option linter.unusedVariables false
set_option linter.unusedSimpArgs false
set_option maxHeartbeats 16000000
set_option maxRecDepth 100000
/-! ### Kids asked, one by one -/
def KIn (w : World) (v : Value) (ks : List Nd) : Prop := ∃ o cap, v = .slice o ks.length cap ∧ ∀ i (h : i < ks.length), ∃ b off s, o = some ⟨b, off, none⟩ ∧ b < w.heap.size ∧ w.cell? ⟨b, off + i * 4, none⟩ = some (.int .i64 ks[i].op) ∧ w.cell? ⟨b, off + i * 4 + 1, none⟩ = some (.int .i64 ks[i].lo) ∧ w.cell? ⟨b, off + i * 4 + 2, none⟩ = some (.int .i64 ks[i].hi) ∧ w.cell? ⟨b, off + i * 4 + 3, none⟩ = some s ∧
      NI w ks[i] (.agg #[.int .i64 ks[i].op, .int .i64 ks[i].lo, .int .i64 ks[i].hi, s])
theorem NIn.kids {q : Nat → Prop} {w : World} {n : Nd} {v : Value} (h : NIn q w n v) : ∃ s, v = .agg #[.int .i64 n.op, .int .i64 n.lo, .int .i64 n.hi, s] ∧ KIn w s n.kids := by
  obtain ⟨o, cap, rfl, hl⟩ := h.open
  refine ⟨_, rfl, o, cap, rfl, fun i hi => ?_⟩
  obtain ⟨b, off, s, h1, h2, _, h4, h5, h6, h7, h8⟩ := hl i hi
  exact ⟨b, off, s, h1, h2, h4, h5, h6, h7, h8.ni⟩
theorem KIn.fr {w w' : World} {v : Value} {ks : List Nd} (h : KIn w v ks) (hf : Fr [] w w') : KIn w' v ks := by
  obtain ⟨o, cap, h1, h2⟩ := h
  refine ⟨o, cap, h1, fun i hi => ?_⟩
  obtain ⟨b, off, s, e, hb, c1, c2, c3, c4, c5⟩ := h2 i hi
  exact ⟨b, off, s, e, Nat.lt_of_lt_of_le hb hf.size, by rw [hf.cell (p := ⟨b, off + i * 4, none⟩) hb (by simp)]; exact c1, by rw [hf.cell (p := ⟨b, off + i * 4 + 1, none⟩) hb (by simp)]; exact c2, by rw [hf.cell (p := ⟨b, off + i * 4 + 2, none⟩) hb (by simp)]; exact c3, by rw [hf.cell (p := ⟨b, off + i * 4 + 3, none⟩) hb (by simp)]; exact c4, c5.go hf⟩
theorem indexN_any (v : Value) (ls : List Nd) (w : World) (hD : KIn w v ls) (hn : ls.length ≤ 9223372036854775807) (fn : FuncId) (bs : Array Value) (p : Nd → Bool) (hcf : ∀ W args, (callFunc fn args).run Try.prog W = .ok (.enter fn args) W)
    (hp : ∀ W x v, Fr [] w W → x ∈ ls → NI W x v → Calls Try.prog fn (#[v] ++ bs) W fun e w' => e = .returned (.bool (p x)) ∧ Fr [] W w') :
    Calls Try.prog 74 #[v, .func (.func fn) #[] bs] w fun e w' => (∃ k : Int, e = .returned (.int .i64 k) ∧ decide (0 ≤ k) = ls.any p) ∧ Fr [] w w' := by
  obtain ⟨o, cap, rfl, hl⟩ := hD
  replace hl := Lib.hid hl; replace hp := Lib.hid hp
  go_enter Try.func74, Try.ntmps74
  go_wp2_with fail
  go_loopg [8] (ls.length + 1) (fun k v wr => ∃ i : Nat, i ≤ ls.length ∧ k + i = ls.length + 1 ∧ v = .int .i64 i ∧ (ls.take i).any p = false ∧ Fr [] w wr)
  case atStart => exact ⟨0, by omega, by omega, rfl, by simp, Fr.refl _ _⟩
  case round =>
    obtain ⟨i, hi, hk, rfl, hni, hF⟩ := hrel
    by_cases hlt : i < ls.length
    · have hltI : (i : Int) < ls.length := by omega
      obtain ⟨b, off, s, rfl, hb, a1, a2, a3, a4, hkid⟩ := hl.out i hlt
      have c1 := hF.cell (p := ⟨b, off + i * 4, none⟩) hb (by simp)
      have c2 := hF.cell (p := ⟨b, off + i * 4 + 1, none⟩) hb (by simp)
      have c3 := hF.cell (p := ⟨b, off + i * 4 + 2, none⟩) hb (by simp)
      have c4 := hF.cell (p := ⟨b, off + i * 4 + 3, none⟩) hb (by simp)
      rw [a1] at c1
      rw [a2] at c2
      rw [a3] at c3
      rw [a4] at c4
      have hcall := Lib.hid (hp.out wr ls[i] _ hF (List.getElem_mem hlt) (hkid.go hF))
      have hnn : p ls[i] = false → (ls.take (i + 1)).any p = false := fun h => by
        rw [List.take_succ_eq_append_getElem hlt, List.any_append, hni]
        simp [h]
      have hyes : p ls[i] = true → ls.any p = true := fun h => List.any_eq_true.mpr ⟨_, List.getElem_mem hlt, h⟩
      replace hni := Lib.hid hni; replace hnn := Lib.hid hnn; replace hyes := Lib.hid hyes; replace hF := Lib.hid hF; replace hkid := Lib.hid hkid
      obtain ⟨py, hpy⟩ : ∃ t, p ls[i] = t := ⟨_, rfl⟩
      rw [hpy] at hcall hnn hyes
      obtain ⟨kop, hkop⟩ : ∃ x, ls[i].op = x := ⟨_, rfl⟩
      obtain ⟨klo, hklo⟩ : ∃ x, ls[i].lo = x := ⟨_, rfl⟩
      obtain ⟨khi, hkhi⟩ : ∃ x, ls[i].hi = x := ⟨_, rfl⟩
      rw [hkop] at c1 hcall
      rw [hklo] at c2 hcall
      rw [hkhi] at c3 hcall
      clear hpy a1 a2 a3 a4 hkop hklo hkhi
      go_wp2_with fail
      try rw [hcf]
      refine hcall.out.mono ?_
      rintro e w1 ⟨rfl, f1⟩
      have F1 := Lib.hid (hF.out.trans f1)
      cases py
      · go_wp2_with fail
        go_roundg (gk - 1)
        case measure => omega
        case rel => exact ⟨i + 1, by omega, by omega, by go_num, hnn.out trivial, F1.out⟩
      · go_wp2_with fail
        go_ret
        exact ⟨⟨i, rfl, by rw [hyes.out trivial]; simp⟩, F1.out⟩
    · have hltI : ¬ (i : Int) < ls.length := by omega
      have hid : i = ls.length := by omega
      subst hid
      rw [List.take_length] at hni
      replace hni := Lib.hid hni; replace hF := Lib.hid hF
      go_wp2_with fail
      go_ret
      exact ⟨⟨-1, rfl, by rw [hni.out]; rfl⟩, hF.out⟩
theorem containsN_any (v : Value) (ls : List Nd) (w : World) (hD : KIn w v ls) (hn : ls.length ≤ 9223372036854775807) (fn : FuncId) (bs : Array Value) (p : Nd → Bool) (hcf : ∀ W args, (callFunc fn args).run Try.prog W = .ok (.enter fn args) W)
    (hp : ∀ W x v, Fr [] w W → x ∈ ls → NI W x v → Calls Try.prog fn (#[v] ++ bs) W fun e w' => e = .returned (.bool (p x)) ∧ Fr [] W w') :
    Calls Try.prog 62 #[v, .func (.func fn) #[] bs] w fun e w' => e = .returned (.bool (ls.any p)) ∧ Fr [] w w' := by
  have H := Lib.hid (indexN_any v ls w hD hn fn bs p hcf hp)
  clear hD hp
  go_enter Try.func62, Try.ntmps62
  go_wp2_with fail
  refine H.out.mono ?_
  rintro e w1 ⟨⟨k, rfl, hk⟩, hf⟩
  replace hk := Lib.hid hk; replace hf := Lib.hid hf
  go_wp2_with fail
  go_ret
  exact ⟨ret_b hk.out, hf.out⟩
/-! ### formed -/
theorem cf_formed1 : ∀ W args, (callFunc 63 args).run Try.prog W = .ok (.enter 63 args) W := by
  intro W args
  have hb : Try.f63.body.isNone = false := by kernel_rfl
  simp [callFunc, go_sem, Try.func63]
  rw [if_neg (by decide +kernel), if_neg (fun h => by rw [h] at hb; cases hb)]
theorem sh_val (n : Nd) (h0 : n.op ≠ 0) : n.sh = (decide (n.lo = 0) && (decide (n.hi = 0) && (kidsOk n.op n.kids.length && n.kids.all Nd.sh))) := by rw [n.sh_eq, if_neg h0]
theorem sh_val0 (n : Nd) (h0 : n.op = 0) : n.sh = (decide (n.kids.length = 0) && (decide (n.lo ≤ n.hi) && (decide (-1000000000000000 ≤ n.lo) && decide (n.hi ≤ 1000000000000000)))) := by rw [n.sh_eq, if_pos h0]
theorem any_not (l : List Nd) : (l.any fun k => !k.sh) = !l.all Nd.sh := by
  induction l with
  | nil => rfl
  | cons k l ih => simp [ih, Bool.not_and]
theorem kidsOk_other (op : Int) (n : Nat) (h1 : op ≠ 1) (h2 : op ≠ 2) (h3 : op ≠ 3) (h4 : op ≠ 4) (h5 : op ≠ 5) : kidsOk op n = false := by
  unfold kidsOk
  rw [if_neg (by omega), if_neg h3, if_neg h4, if_neg h5]
theorem kidsOk_12 (op : Int) (n : Nat) (h : op = 1 ∨ op = 2) : kidsOk op n = decide (2 ≤ n) := by unfold kidsOk; rw [if_pos h]
theorem kidsOk_3 (n : Nat) : kidsOk 3 n = decide (n = 2) := by unfold kidsOk; rw [if_neg (by omega), if_pos rfl]
theorem kidsOk_4 (n : Nat) : kidsOk 4 n = decide (n = 0) := by unfold kidsOk; rw [if_neg (by omega), if_neg (by omega), if_pos rfl]
theorem kidsOk_5 (n : Nat) : kidsOk 5 n = decide (n = 1) := by unfold kidsOk; rw [if_neg (by omega), if_neg (by omega), if_neg (by omega), if_pos rfl]
theorem formed_any : ∀ (M : Nat) (n : Nd) (w : World) (v : Value), n.nodes ≤ M → M ≤ 100000 → NI w n v →
    Calls Try.prog 56 #[v] w fun e w' => e = .returned (.bool n.sh) ∧ Fr [] w w'
  | 0, n, w, v, hN, _, _ => by have := nodes_pos n; omega
  | M + 1, n, w, v, hN, hM, hv => by
    have ih := fun k (hk : k ∈ n.kids) W s (h : NI W k s) => formed_any M k W s (by obtain ⟨i, hi, rfl⟩ := List.getElem_of_mem hk; have := kid_lt hi; omega) (by omega) h
    have C1 : ∀ W x u, Fr [] w W → x ∈ n.kids → NI W x u → Calls Try.prog 63 (#[u] ++ #[]) W fun e w' => e = .returned (.bool (!x.sh)) ∧ Fr [] W w' := by
      intro W x u hf hx hu
      have D := fun W2 (f2 : Fr [] W W2) => ih x hx W2 u (hu.go f2)
      obtain ⟨V, hV⟩ : ∃ V, x.sh = V := ⟨_, rfl⟩
      rw [hV] at D ⊢
      obtain ⟨o, cap, rfl, _⟩ := hu.open
      obtain ⟨xo, hxo⟩ : ∃ y, x.op = y := ⟨_, rfl⟩
      obtain ⟨xl, hxl⟩ : ∃ y, x.lo = y := ⟨_, rfl⟩
      obtain ⟨xh, hxh⟩ : ∃ y, x.hi = y := ⟨_, rfl⟩
      obtain ⟨xk, hxk⟩ : ∃ y, x.kids.length = y := ⟨_, rfl⟩
      rw [hxo, hxl, hxh, hxk] at D ⊢
      clear hu
      obtain ⟨W1, hW1⟩ : ∃ x, W.alloc (.cells #[.int .i64 xo, .int .i64 xl, .int .i64 xh, .slice o xk cap] 46) = x := ⟨_, rfl⟩
      have P1 := Pt.newA W 46 #[.int .i64 xo, .int .i64 xl, .int .i64 xh, .slice o xk cap]
      rw [hW1] at P1
      have F1 : Fr [] W W1 := by rw [← hW1]; exact (Fr.refl [] W).alloc _
      obtain ⟨b1, hb1⟩ : ∃ x, W.heap.size = x := ⟨_, rfl⟩
      rw [hb1] at P1
      have k1 := P1.cell
      have D1 := D W1 F1
      replace D := Lib.hid D; replace D1 := Lib.hid D1; replace ih := Lib.hid ih; replace hf := Lib.hid hf; replace hx := Lib.hid hx; replace P1 := Lib.hid P1; replace F1 := Lib.hid F1; replace hV := Lib.hid hV; replace hxo := Lib.hid hxo; replace hxl := Lib.hid hxl; replace hxh := Lib.hid hxh; replace hxk := Lib.hid hxk
      show Calls Try.prog 63 #[.agg #[.int .i64 xo, .int .i64 xl, .int .i64 xh, .slice o xk cap]] W _
      go_enter Try.func63, Try.ntmps63
      go_wp2_with fail
      refine (D1.out).mono ?_
      rintro e w2 ⟨rfl, f2⟩
      have F2 := F1.out.trans f2
      replace f2 := Lib.hid f2; replace F2 := Lib.hid F2
      go_wp2_with fail
      go_ret
      exact ⟨rfl, F2.out⟩
    obtain ⟨s, rfl, hs⟩ := hv.kids
    have e3 := nodesL_len n.kids
    have e4 := n.nodes_eq
    have CN : ∀ W, Fr [] w W → Calls Try.prog 62 #[s, .func (.func 63) #[] #[]] W fun e w' => e = .returned (.bool (!n.kids.all Nd.sh)) ∧ Fr [] W w' := fun W f => by
      rw [← any_not]
      exact containsN_any s n.kids W (hs.fr f) (by omega) _ #[] _ cf_formed1 (fun W2 x u f2 hx hu => C1 W2 x u (f.trans f2) hx hu)
    obtain ⟨o, cap, rfl, hs0⟩ := hs
    clear hs0
    have S0 := sh_val0 n
    have S1 := sh_val n
    obtain ⟨op, hop⟩ : ∃ x, n.op = x := ⟨_, rfl⟩
    obtain ⟨lo, hlo⟩ : ∃ x, n.lo = x := ⟨_, rfl⟩
    obtain ⟨hi, hhi⟩ : ∃ x, n.hi = x := ⟨_, rfl⟩
    obtain ⟨K, hK⟩ : ∃ x, n.kids.length = x := ⟨_, rfl⟩
    obtain ⟨A, hA⟩ : ∃ x, n.kids.all Nd.sh = x := ⟨_, rfl⟩
    obtain ⟨V, hV⟩ : ∃ x, n.sh = x := ⟨_, rfl⟩
    rw [hop, hlo, hhi, hK] at S0 ⊢
    rw [hK] at CN
    rw [hop, hlo, hhi, hK] at S1
    rw [hA] at S1 CN
    rw [hV] at S0 S1 ⊢
    have hKb : K ≤ 100000 := by omega
    clear e3 e4 hv C1 ih
    obtain ⟨w1, hw1⟩ : ∃ x, w.alloc (.cells #[.int .i64 op, .int .i64 lo, .int .i64 hi, .slice o K cap] 46) = x := ⟨_, rfl⟩
    have P1 := Pt.newA w 46 #[.int .i64 op, .int .i64 lo, .int .i64 hi, .slice o K cap]
    rw [hw1] at P1
    have F1 : Fr [] w w1 := by rw [← hw1]; exact (Fr.refl [] w).alloc _
    obtain ⟨b1, hb1⟩ : ∃ x, w.heap.size = x := ⟨_, rfl⟩
    rw [hb1] at P1
    have k1 := P1.cell
    have CN1 := CN w1 F1
    clear CN hop hlo hhi hK hA hV hN hM
    obtain ⟨OK, hOK⟩ : ∃ x, (decide (lo = 0) && decide (hi = 0)) = x := ⟨_, rfl⟩
    have S2 : op ≠ 0 → V = (OK && (kidsOk op K && A)) := fun h => by rw [S1 h, ← hOK, Bool.and_assoc]
    clear S1
    have S1 := S2
    clear S2
    replace P1 := Lib.hid P1; replace F1 := Lib.hid F1; replace CN1 := Lib.hid CN1; replace S0 := Lib.hid S0; replace S1 := Lib.hid S1; replace hOK := Lib.hid hOK
    go_enter Try.func56, Try.ntmps56
    go_upto_region 1 with fail
    go_cut [3] from 4 to 11 (fun v3 wx => v3 = .bool OK ∧ wx = w1)
    case first =>
      as_aux_lemma =>
      clear S0 S1 CN1
      by_cases hl : lo = 0
      · subst hl
        by_cases hh : hi = 0
        · subst hh
          go_wp2_with fail
          go_meet
          case rel => exact ⟨by rw [← hOK.out]; rfl, rfl⟩
        · have x2 : (hi == 0) = false := by simpa using hh
          go_wp2_with fail
          go_meet
          case rel => exact ⟨by rw [← hOK.out, decide_eq_false hh]; rfl, rfl⟩
      · have x1 : (lo == 0) = false := by simpa using hl
        go_wp2_with fail
        go_meet
        case rel => exact ⟨by rw [← hOK.out, decide_eq_false hl]; rfl, rfl⟩
    case rest =>
      obtain ⟨rfl, rfl⟩ := hcut
      by_cases h0 : op = 0
      · subst h0
        have S0 := S0.out rfl
        clear S1
        by_cases c1 : K = 0
        · subst c1
          by_cases c2 : lo ≤ hi
          · by_cases c3 : -1000000000000000 ≤ lo
            · by_cases c4 : hi ≤ 1000000000000000
              · as_aux_lemma =>
                obtain rfl : V = true := by rw [S0]; simp [c2, c3, c4]
                clear S0
                have d2 := decide_eq_true c2
                have d3 := decide_eq_true c3
                have d4 := decide_eq_true c4
                go_wp2_with fail
                go_ret
                exact ⟨rfl, F1.out⟩
              · as_aux_lemma =>
                obtain rfl : V = false := by rw [S0]; simp [c2, c3, c4]
                clear S0
                have d2 := decide_eq_true c2
                have d3 := decide_eq_true c3
                have d4 := decide_eq_false c4
                go_wp2_with fail
                go_ret
                exact ⟨rfl, F1.out⟩
            · as_aux_lemma =>
              obtain rfl : V = false := by rw [S0]; simp [c2, c3]
              clear S0
              have d2 := decide_eq_true c2
              have d3 := decide_eq_false c3
              go_wp2_with fail
              go_ret
              exact ⟨rfl, F1.out⟩
          · as_aux_lemma =>
            obtain rfl : V = false := by rw [S0]; simp [c2]
            clear S0
            have d2 := decide_eq_false c2
            go_wp2_with fail
            go_ret
            exact ⟨rfl, F1.out⟩
        · as_aux_lemma =>
          obtain rfl : V = false := by rw [S0]; simp [c1]
          clear S0
          have z1 : ((K : Int) == 0) = false := by simp; omega
          have z2 : (K == 0) = false := by simpa using c1
          go_wp2_with fail
          go_ret
          exact ⟨rfl, F1.out⟩
      · have S1 := S1.out h0
        clear S0
        have y0 : (op == 0) = false := by simpa using h0
        cases OK
        · obtain rfl : V = false := by rw [S1]; rfl
          clear S1
          by_cases h1 : op = 1
          · as_aux_lemma =>
            subst h1
            go_wp2_with fail
            go_ret
            exact ⟨rfl, F1.out⟩
          have y1 : (op == 1) = false := by simpa using h1
          by_cases h2 : op = 2
          · as_aux_lemma =>
            subst h2
            go_wp2_with fail
            go_ret
            exact ⟨rfl, F1.out⟩
          have y2 : (op == 2) = false := by simpa using h2
          by_cases h3 : op = 3
          · as_aux_lemma =>
            subst h3
            go_wp2_with fail
            go_ret
            exact ⟨rfl, F1.out⟩
          have y3 : (op == 3) = false := by simpa using h3
          by_cases h4 : op = 4
          · as_aux_lemma =>
            subst h4
            go_wp2_with fail
            go_ret
            exact ⟨rfl, F1.out⟩
          have y4 : (op == 4) = false := by simpa using h4
          by_cases h5 : op = 5
          · as_aux_lemma =>
            subst h5
            go_wp2_with fail
            go_ret
            exact ⟨rfl, F1.out⟩
          have y5 : (op == 5) = false := by simpa using h5
          clear h0 h1 h2 h3 h4 h5
          go_wp2_with fail
          go_ret
          exact ⟨rfl, F1.out⟩
        · rw [Bool.true_and] at S1
          by_cases h1 : op = 1
          · subst h1
            by_cases cK : 2 ≤ K
            · as_aux_lemma =>
              obtain rfl : V = A := by rw [S1, kidsOk_12 _ _ (.inl rfl), decide_eq_true cK]; rfl
              clear S1
              have z1 : (2 : Int) ≤ (K : Int) := by omega
              have z2 := decide_eq_true z1
              have z3 := decide_eq_true cK
              go_wp2_with fail
              refine (CN1.out).mono ?_
              rintro e w2 ⟨rfl, f2⟩
              have F2 := F1.out.trans f2
              replace f2 := Lib.hid f2; replace F2 := Lib.hid F2
              go_wp2_with fail
              go_ret
              exact ⟨ret_b (by simp), F2.out⟩
            · as_aux_lemma =>
              obtain rfl : V = false := by rw [S1, kidsOk_12 _ _ (.inl rfl), decide_eq_false cK]; rfl
              clear S1
              have z1 : ¬ (2 : Int) ≤ (K : Int) := by omega
              have z2 := decide_eq_false z1
              have z3 := decide_eq_false cK
              go_wp2_with fail
              go_ret
              exact ⟨rfl, F1.out⟩
          have y1 : (op == 1) = false := by simpa using h1
          by_cases h2 : op = 2
          · subst h2
            by_cases cK : 2 ≤ K
            · as_aux_lemma =>
              obtain rfl : V = A := by rw [S1, kidsOk_12 _ _ (.inr rfl), decide_eq_true cK]; rfl
              clear S1
              have z1 : (2 : Int) ≤ (K : Int) := by omega
              have z2 := decide_eq_true z1
              have z3 := decide_eq_true cK
              go_wp2_with fail
              refine (CN1.out).mono ?_
              rintro e w2 ⟨rfl, f2⟩
              have F2 := F1.out.trans f2
              replace f2 := Lib.hid f2; replace F2 := Lib.hid F2
              go_wp2_with fail
              go_ret
              exact ⟨ret_b (by simp), F2.out⟩
            · as_aux_lemma =>
              obtain rfl : V = false := by rw [S1, kidsOk_12 _ _ (.inr rfl), decide_eq_false cK]; rfl
              clear S1
              have z1 : ¬ (2 : Int) ≤ (K : Int) := by omega
              have z2 := decide_eq_false z1
              have z3 := decide_eq_false cK
              go_wp2_with fail
              go_ret
              exact ⟨rfl, F1.out⟩
          have y2 : (op == 2) = false := by simpa using h2
          by_cases h3 : op = 3
          · subst h3
            by_cases cK : K = 2
            · as_aux_lemma =>
              obtain rfl : V = A := by rw [S1, kidsOk_3, decide_eq_true cK]; rfl
              subst cK
              clear S1
              go_wp2_with fail
              refine (CN1.out).mono ?_
              rintro e w2 ⟨rfl, f2⟩
              have F2 := F1.out.trans f2
              replace f2 := Lib.hid f2; replace F2 := Lib.hid F2
              go_wp2_with fail
              go_ret
              exact ⟨ret_b (by simp), F2.out⟩
            · as_aux_lemma =>
              obtain rfl : V = false := by rw [S1, kidsOk_3, decide_eq_false cK]; rfl
              clear S1
              have z1 : ((K : Int) == 2) = false := by simp; omega
              have z2 : (K == 2) = false := by simpa using cK
              go_wp2_with fail
              go_ret
              exact ⟨rfl, F1.out⟩
          have y3 : (op == 3) = false := by simpa using h3
          by_cases h4 : op = 4
          · subst h4
            by_cases cK : K = 0
            · as_aux_lemma =>
              obtain rfl : V = A := by rw [S1, kidsOk_4, decide_eq_true cK]; rfl
              subst cK
              clear S1
              go_wp2_with fail
              refine (CN1.out).mono ?_
              rintro e w2 ⟨rfl, f2⟩
              have F2 := F1.out.trans f2
              replace f2 := Lib.hid f2; replace F2 := Lib.hid F2
              go_wp2_with fail
              go_ret
              exact ⟨ret_b (by simp), F2.out⟩
            · as_aux_lemma =>
              obtain rfl : V = false := by rw [S1, kidsOk_4, decide_eq_false cK]; rfl
              clear S1
              have z1 : ((K : Int) == 0) = false := by simp; omega
              have z2 : (K == 0) = false := by simpa using cK
              go_wp2_with fail
              go_ret
              exact ⟨rfl, F1.out⟩
          have y4 : (op == 4) = false := by simpa using h4
          by_cases h5 : op = 5
          · subst h5
            by_cases cK : K = 1
            · as_aux_lemma =>
              obtain rfl : V = A := by rw [S1, kidsOk_5, decide_eq_true cK]; rfl
              subst cK
              clear S1
              go_wp2_with fail
              refine (CN1.out).mono ?_
              rintro e w2 ⟨rfl, f2⟩
              have F2 := F1.out.trans f2
              replace f2 := Lib.hid f2; replace F2 := Lib.hid F2
              go_wp2_with fail
              go_ret
              exact ⟨ret_b (by simp), F2.out⟩
            · as_aux_lemma =>
              obtain rfl : V = false := by rw [S1, kidsOk_5, decide_eq_false cK]; rfl
              clear S1
              have z1 : ((K : Int) == 1) = false := by simp; omega
              have z2 : (K == 1) = false := by simpa using cK
              go_wp2_with fail
              go_ret
              exact ⟨rfl, F1.out⟩
          have y5 : (op == 5) = false := by simpa using h5
          obtain rfl : V = false := by rw [S1, kidsOk_other op K h1 h2 h3 h4 h5]; rfl
          clear S1 h0 h1 h2 h3 h4 h5
          go_wp2_with fail
          go_ret
          exact ⟨rfl, F1.out⟩
end Go.Proofs.Ytehmfnpiidcbpaa
