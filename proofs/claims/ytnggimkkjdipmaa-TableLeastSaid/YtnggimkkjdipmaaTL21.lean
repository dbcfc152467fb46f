import Derived.Test.YtnggimkkjdipmaaTL14
import Derived.Test.YtnggimkkjdipmaaTL15
import Derived.Test.YtnggimkkjdipmaaTD7
import Derived.Test.YtnggimkkjdipmaaTL11
namespace Go.Proofs.Ytnggimkkjdipmaa
open Go.RowKit
set_option linter.unusedVariables false
set_option linter.unusedSimpArgs false
set_option maxHeartbeats 16000000
set_option maxRecDepth 100000
/-! ### The reference's tell -/
structure TrI (wr : World) (v : Value) (ps : List (Value × List Int)) (L : List (List Int)) (m : Nat) : Prop where
  ws : WSl wr v ps
  eq : wds ps = onceF L
  len : ps.length ≤ m
  sh : ∀ x ∈ L, x.length ≤ 60
theorem TrI.short {wr : World} {v : Value} {ps : List (Value × List Int)} {L : List (List Int)} {m : Nat} (h : TrI wr v ps L m) : ∀ p ∈ ps, p.2.length ≤ 900000 := fun p hp => by
  have : p.2 ∈ wds ps := by unfold wds; exact List.mem_map.mpr ⟨p, hp, rfl⟩
  rw [h.eq, onceF_mem] at this
  have := h.sh _ this
  omega
theorem TrI.asc {wr : World} {v : Value} {ps : List (Value × List Int)} {L : List (List Int)} {m : Nat} (h : TrI wr v ps L m) : Asc (wds ps) := by rw [h.eq]; exact onceF_asc L
theorem rtell_any (T : Tb) (r : Value) (w : World) (hR : RIn w r T.rows) (hV : VT T) :
    Calls Try.prog 78 #[T.val r] w (PutR (onceF (tellAll T T.st.toNat)) w) := by
  rw [show T.val r = .agg #[.int .i64 T.st, .int .i64 T.ev, .int .i64 T.sr, r] from rfl]
  obtain ⟨w1, hw1⟩ : ∃ x, w.alloc (.cells #[.int .i64 T.st, .int .i64 T.ev, .int .i64 T.sr, r] RTab) = x := ⟨_, rfl⟩
  have P1 := Pt.newA w RTab #[.int .i64 T.st, .int .i64 T.ev, .int .i64 T.sr, r]
  rw [hw1] at P1
  have F1 : Fr [] w w1 := by rw [← hw1]; exact (Fr.refl [] w).alloc _
  obtain ⟨b1, hb1⟩ : ∃ x, w.heap.size = x := ⟨_, rfl⟩
  rw [hb1] at P1
  have k1 := P1.cell
  dsimp only at k1
  obtain ⟨n, hn⟩ : ∃ n : Nat, T.st.toNat = n := ⟨_, rfl⟩
  have hst := hV.st
  have hnI : T.st = (n : Int) := by omega
  have hn30 : n ≤ 30 := by omega
  have DC : ∀ W (a b : Nat), Fr [] w W → a < n → b < n → Calls Try.prog 63 #[.agg #[.int .i64 T.st, .int .i64 T.ev, .int .i64 T.sr, r], .agg #[.int .i64 T.st, .int .i64 T.ev, .int .i64 T.sr, r], .int .i64 a, .int .i64 b] W (DiffR (differT T T a b) W) := fun W a b f ha hb =>
    rdiffer_any T T (T.val r) (T.val r) a b W ⟨r, rfl, hR.fr f⟩ ⟨r, rfl, hR.fr f⟩ hV hV rfl (by omega) (by omega)
  have SH : ∀ (a b : Nat), a < n → b < n → ∀ l, differT T T a b = some l → l.length ≤ 60 := fun a b ha hb l hl => (differT_words hV hV rfl (by omega) (by omega) l hl).2
  replace hR := Lib.hid hR; replace hV := Lib.hid hV; replace DC := Lib.hid DC; replace SH := Lib.hid SH; replace hnI := Lib.hid hnI; replace hn := Lib.hid hn; replace hw1 := Lib.hid hw1; replace hst := Lib.hid hst; replace P1 := Lib.hid P1; replace F1 := Lib.hid F1
  go_enter Try.func78, Try.ntmps78
  go_wp2_with fail
  try rw [hb1]
  rw [hw1.out]
  go_loopg [3, 4] (n + 1) (fun k v3 v4 wr => ∃ (i : Nat) (ps : List (Value × List Int)), i ≤ n ∧ k + i = n + 1 ∧ v4 = .int .i64 i ∧ TrI wr v3 ps (tellAll T i) (i * 30) ∧ Fr [] w1 wr)
  case atStart => exact ⟨0, [], by omega, by omega, by go_num, ⟨⟨.inl ⟨rfl, rfl⟩, by simp⟩, rfl, by simp, by simp [tellAll]⟩, Fr.refl _ _⟩
  case round =>
    obtain ⟨i, ps, hi, hk, rfl, hI, hF⟩ := hrel
    obtain ⟨wi, rfl⟩ : ∃ x : World, x = wr := ⟨_, rfl⟩
    obtain ⟨g1, rfl⟩ : ∃ x : Nat, x = gk := ⟨_, rfl⟩
    have ki := (hF.pt P1.out (by simp)).cell
    have hst' := hnI.out
    clear k1
    by_cases hlt : (i : Int) < T.st
    · as_aux_lemma =>
      have hin : i < n := by omega
      have hI0 : TrI wi u3 ps (tellAll T i ++ tellRow T i (i + 1)) (i * 30 + ((i + 1) - (i + 1))) := by
        rw [tellRow_start, List.append_nil]; exact ⟨hI.ws, hI.eq, by have := hI.len; omega, hI.sh⟩
      replace hI := Lib.hid hI; replace hF := Lib.hid hF; replace hst' := Lib.hid hst'; replace hI0 := Lib.hid hI0
      go_wp2_with fail
      clear ki
      go_loopg [3, 5] (n - i) (fun k v3 v5 wr => ∃ (j : Nat) (ps : List (Value × List Int)), i + 1 ≤ j ∧ j ≤ n ∧ k + j = n + 1 ∧ v5 = .int .i64 j ∧ TrI wr v3 ps (tellAll T i ++ tellRow T i j) (i * 30 + (j - (i + 1))) ∧ Fr [] w1 wr)
      case atStart => exact ⟨i + 1, ps, by omega, by omega, by omega, by go_num, hI0.out, hF.out⟩
      case round =>
        clear hI hI0 hF
        obtain ⟨j, ps, hj0, hj, hk2, rfl, hI, hF⟩ := hrel
        obtain ⟨wj, rfl⟩ : ∃ x : World, x = wr := ⟨_, rfl⟩
        have hst2 := hnI.out
        have kj := (hF.pt P1.out (by simp)).cell
        by_cases hlt2 : (j : Int) < T.st
        · have hjn : j < n := by omega
          have D := DC.out wj i j (F1.out.trans hF) hin hjn
          have S2 := SH.out i j hin hjn
          have hstp := tellRow_step T i j hj0
          obtain ⟨X, hX⟩ : ∃ x, differT T T i j = x := ⟨_, rfl⟩
          rw [hX] at D S2 hstp
          cases X with
          | none =>
            have D2 : Calls Try.prog 63 #[.agg #[.int .i64 T.st, .int .i64 T.ev, .int .i64 T.sr, r], .agg #[.int .i64 T.st, .int .i64 T.ev, .int .i64 T.sr, r], .int .i64 i, .int .i64 j] wj fun e w' => (∃ v, e = .returned (.tuple #[v, .bool false])) ∧ Fr [] wj w' := D.mono fun e w' ⟨v, h1, h2, h3⟩ => ⟨⟨_, h1⟩, h3⟩
            clear D
            replace hI := Lib.hid hI; replace hF := Lib.hid hF; replace hst2 := Lib.hid hst2; replace S2 := Lib.hid S2; replace hstp := Lib.hid hstp; replace hX := Lib.hid hX; replace D2 := Lib.hid D2
            go_wp2_with fail
            refine D2.out.mono ?_
            rintro e w2 ⟨⟨v2, rfl⟩, f2⟩
            have GI : TrI w2 u3 ps (tellAll T i ++ tellRow T i (j + 1)) (i * 30 + (j + 1 - (i + 1))) := ⟨hI.out.ws.fr f2, by rw [hstp.out]; simpa using hI.out.eq, by have := hI.out.len; omega, by rw [hstp.out]; simpa using hI.out.sh⟩
            replace f2 := Lib.hid f2; replace GI := Lib.hid GI
            go_wp2_with fail
            go_roundg (gk - 1)
            case measure => omega
            case rel => exact ⟨j + 1, ps, by omega, by omega, by omega, by go_num, GI.out, hF.out.trans f2.out⟩
          | some word =>
            have D2 : Calls Try.prog 63 #[.agg #[.int .i64 T.st, .int .i64 T.ev, .int .i64 T.sr, r], .agg #[.int .i64 T.st, .int .i64 T.ev, .int .i64 T.sr, r], .int .i64 i, .int .i64 j] wj fun e w' => (∃ v, e = .returned (.tuple #[v, .bool true]) ∧ NIn w' v word) ∧ Fr [] wj w' := D.mono fun e w' ⟨v, h1, h2, h3⟩ => by
              obtain ⟨o, c, rfl, _, h4⟩ := h2
              exact ⟨⟨_, h1, h4⟩, h3⟩
            clear D
            have S3 := S2 word rfl
            clear S2
            replace hI := Lib.hid hI; replace hF := Lib.hid hF; replace hst2 := Lib.hid hst2; replace S3 := Lib.hid S3; replace hstp := Lib.hid hstp; replace hX := Lib.hid hX; replace D2 := Lib.hid D2
            go_wp2_with fail
            refine D2.out.mono ?_
            rintro e w2 ⟨⟨v2, rfl, n2⟩, f2⟩
            have hps := hI.out.len
            have PC := rput_any u3 v2 ps word w2 (hI.out.ws.fr f2) n2 hI.out.asc (by omega) (by have := S3.out; omega) hI.out.short
            replace n2 := Lib.hid n2; replace f2 := Lib.hid f2; replace PC := Lib.hid PC
            go_wp2_with fail
            refine PC.out.mono ?_
            rintro e w9 ⟨v9, ps9, rfl, he9, hW9, f9⟩
            have GI : TrI w9 v9 ps9 (tellAll T i ++ tellRow T i (j + 1)) (i * 30 + (j + 1 - (i + 1))) := ⟨hW9, by
              rw [he9, hI.out.eq, hstp.out, Option.toList_some, ← List.append_assoc, onceF_snoc], by
              have h1 := congrArg List.length he9
              have h2 := insW_len word (wds ps)
              unfold wds at h1 h2
              rw [List.length_map] at h1 h2
              omega, fun x hx => by
              rw [hstp.out, Option.toList_some, ← List.append_assoc] at hx
              rcases List.mem_append.mp hx with hx | hx
              · exact hI.out.sh x hx
              · simp at hx; subst hx; exact S3.out⟩
            have GF := (hF.out.trans f2.out).trans f9
            replace he9 := Lib.hid he9; replace hW9 := Lib.hid hW9; replace f9 := Lib.hid f9; replace GI := Lib.hid GI; replace GF := Lib.hid GF
            go_wp2_with fail
            go_roundg (gk - 1)
            case measure => omega
            case rel => exact ⟨j + 1, _, by omega, by omega, by omega, by go_num, GI.out, GF.out⟩
        · have hjn : j = n := by omega
          subst hjn
          have GI : TrI wj u3 ps (tellAll T (i + 1)) ((i + 1) * 30) := ⟨hI.ws, by rw [tellAll_step, hn.out]; exact hI.eq, by have := hI.len; omega, by rw [tellAll_step, hn.out]; exact hI.sh⟩
          replace hI := Lib.hid hI; replace hF := Lib.hid hF; replace hst2 := Lib.hid hst2; replace GI := Lib.hid GI
          go_wp2_with fail
          go_roundg (g1 - 1)
          case measure => omega
          case rel => exact ⟨i + 1, ps, by omega, by omega, by go_num, GI.out, hF.out⟩
    · have hin : i = n := by omega
      subst hin
      have GO : PutR (onceF (tellAll T T.st.toNat)) w (.returned u3) wi := ⟨u3, ps, rfl, by rw [hn.out]; exact hI.eq, hI.ws, F1.out.trans hF⟩
      replace hI := Lib.hid hI; replace hF := Lib.hid hF; replace hst' := Lib.hid hst'; replace GO := Lib.hid GO
      go_wp2_with fail
      go_ret
      exact GO.out
def TlR (L : List (List Int)) (s : Int) (w : World) (e : Ending) (w' : World) : Prop := ∃ v' ps', e = .returned (.tuple #[v', .int .i64 s]) ∧ wds ps' = L ∧ WSl w' v' ps' ∧ Fr [] w w'
theorem rTell_any (T : Tb) (v : Value) (w : World) (hT : TIn w v T) :
    Calls Try.prog 45 #[v] w (TlR (tellF T).1 (tellF T).2 w) := by
  obtain ⟨r, rfl, hR⟩ := hT
  rw [show T.val r = .agg #[.int .i64 T.st, .int .i64 T.ev, .int .i64 T.sr, r] from rfl]
  have VA : ∀ W, Fr [] w W → Calls Try.prog 20 #[.agg #[.int .i64 T.st, .int .i64 T.ev, .int .i64 T.sr, r]] W fun e w' => e = .returned (.bool (validT T)) ∧ Fr [] W w' := fun W f => rvalid_any T _ W ⟨r, rfl, hR.fr f⟩
  obtain ⟨⟨X, z⟩, hX⟩ : ∃ x, tellF T = x := ⟨_, rfl⟩
  rw [hX]
  dsimp only
  obtain ⟨w1, hw1⟩ : ∃ x, w.alloc (.cells #[.int .i64 T.st, .int .i64 T.ev, .int .i64 T.sr, r] RTab) = x := ⟨_, rfl⟩
  have P1 := Pt.newA w RTab #[.int .i64 T.st, .int .i64 T.ev, .int .i64 T.sr, r]
  rw [hw1] at P1
  have F1 : Fr [] w w1 := by rw [← hw1]; exact (Fr.refl [] w).alloc _
  obtain ⟨b1, hb1⟩ : ∃ x, w.heap.size = x := ⟨_, rfl⟩
  rw [hb1] at P1
  have k1 := P1.cell
  replace hR := Lib.hid hR; replace VA := Lib.hid VA; replace hX := Lib.hid hX; replace P1 := Lib.hid P1; replace F1 := Lib.hid F1
  go_enter Try.func45, Try.ntmps45
  go_wp2_with fail
  refine (VA.out _ F1.out).mono ?_
  rintro e w4 ⟨rfl, f4⟩
  have F4 := F1.out.trans f4
  have p1 := f4.pt P1.out (by simp)
  clear k1 hb1 hw1
  cases hv : validT T
  · have hx := hX.out
    unfold tellF at hx
    rw [hv] at hx
    obtain ⟨rfl, rfl⟩ : [] = X ∧ 1 = z := by simpa using hx
    clear hx
    have GO : TlR [] 1 w (.returned (.tuple #[.slice none 0 0, .int .i64 1])) w4 := ⟨_, [], rfl, rfl, ⟨.inl ⟨rfl, rfl⟩, by simp⟩, F4⟩
    replace hv := Lib.hid hv; replace F4 := Lib.hid F4; replace f4 := Lib.hid f4; replace p1 := Lib.hid p1; replace GO := Lib.hid GO
    go_wp2_with fail
    refine bodyPost_ret (v := .tuple #[.slice none 0 0, .int .i64 1]) (by simp [results, Try.results45, go_sem]) rfl GO.out
  · have hV := (validT_iff T).mp hv
    have hx := hX.out
    unfold tellF at hx
    rw [hv, if_pos rfl] at hx
    obtain ⟨hx1, rfl⟩ : onceF (tellAll (leastT T) (leastT T).st.toNat) = X ∧ 0 = z := by simpa using hx
    have LE := rleast_any T _ w4 ⟨r, rfl, hR.out.fr F4⟩ hV
    rw [show T.val r = .agg #[.int .i64 T.st, .int .i64 T.ev, .int .i64 T.sr, r] from rfl] at LE
    have TE : ∀ r' W, RIn W r' (leastT T).rows → Calls Try.prog 78 #[.agg #[.int .i64 (leastT T).st, .int .i64 (leastT T).ev, .int .i64 (leastT T).sr, r']] W (PutR (onceF (tellAll (leastT T) (leastT T).st.toNat)) W) := fun r' W h => rtell_any (leastT T) r' W h (least_valid hV)
    have c1 := p1.cell
    clear hx
    replace hv := Lib.hid hv; replace hV := Lib.hid hV; replace hx1 := Lib.hid hx1; replace F4 := Lib.hid F4; replace f4 := Lib.hid f4; replace p1 := Lib.hid p1; replace LE := Lib.hid LE; replace TE := Lib.hid TE
    go_wp2_with fail
    refine LE.out.mono ?_
    rintro e w7 ⟨rv, rfl, hRB, f7⟩
    have F7 := F4.out.trans f7
    have C3 := TE.out rv w7 hRB.rin
    clear c1
    replace hRB := Lib.hid hRB; replace f7 := Lib.hid f7; replace F7 := Lib.hid F7; replace C3 := Lib.hid C3
    go_wp2_with fail
    refine C3.out.mono ?_
    rintro e w8 ⟨v8, ps8, rfl, h8, W8, f8⟩
    have GO : TlR X 0 w (.returned (.tuple #[v8, .int .i64 0])) w8 := ⟨v8, ps8, rfl, h8.trans hx1.out, W8, F7.out.trans f8⟩
    replace h8 := Lib.hid h8; replace W8 := Lib.hid W8; replace f8 := Lib.hid f8; replace GO := Lib.hid GO
    go_wp2_with fail
    refine bodyPost_ret (v := .tuple #[v8, .int .i64 0]) (by simp [results, Try.results45, go_sem]) rfl GO.out
end Go.Proofs.Ytnggimkkjdipmaa
namespace Go.Proofs.Ytnggimkkjdipmaa
open Go.RowKit
set_option linter.unusedVariables false
set_option linter.unusedSimpArgs false
set_option maxHeartbeats 16000000
set_option maxRecDepth 100000
/-! ### The reference's cover -/
theorem make_wds (n : Int) (w : World) (h0 : 0 ≤ n) (h1 : n ≤ 1000) :
    (Instr.makeSlice 53 (.int .i64 n) (.int .i64 n)).run Try.prog w = .ok (.slice (some ⟨w.heap.size, 0, none⟩) n.toNat n.toNat) (w.alloc (.cells (List.replicate n.toNat (Value.slice none 0 0)).toArray 25)) := by
  rw [run_make (P := Try.prog) w 53 25 iWd zWd uWds infoWd (by kernel_rfl) .i64 .i64 n n h0 (by omega) (by rw [bytesWd]; omega) (by omega)]
  congr 3
  rw [show iWd.size = 1 by kernel_rfl, show zWd.cells = #[.slice none 0 0] by kernel_rfl]
  unfold madeCells
  apply Array.ext
  · simp
  · intro i h1 h2
    simp [Nat.mod_one]
/-- cover, in the midst. -/
structure CoI (T : Tb) (n : Nat) (w : World) (bo bk : Nat) (L : List (Int × List Int)) (wr : World) (v5 : Value) (b5 : Option Nat) (us : List Value) : Prop where
  po : Pt wr bo 25 us
  ln : us.length = n
  ws : ∀ s (h : s < us.length), NInB (fun b => b ≠ bo ∧ b ≠ bk ∧ b ∉ b5.toList) wr us[s] (lookW L s)
  pk : Pt wr bk 4 (bools n (fun s => decide ((s : Int) ∈ keyW L)))
  lr : Row 1 wr v5 (keyW L).length (ints (keyW L)) b5
  l5 : ∀ z, b5 = some z → z ≠ bo ∧ z ≠ bk ∧ w.heap.size ≤ z
  ne : bo ≠ bk
  go : w.heap.size ≤ bo
  gk : w.heap.size ≤ bk
  fr : Fr [] w wr
variable {T : Tb} {n : Nat} {w : World} {bo bk : Nat} {L : List (Int × List Int)} {wr : World} {v5 : Value} {b5 : Option Nat} {us : List Value}
theorem CoI.frz (h : CoI T n w bo bk L wr v5 b5 us) {W : World} (f : Fr [] wr W) : CoI T n w bo bk L W v5 b5 us :=
  ⟨f.pt h.po (by simp), h.ln, fun s hs => (h.ws s hs).frq f (fun b _ hq => ⟨by simp, hq⟩), f.pt h.pk (by simp), h.lr.fr f (by simp), h.l5, h.ne, h.go, h.gk, h.fr.trans f⟩
theorem CoI.step (h : CoI T n w bo bk L wr v5 b5 us) {t : Nat} (ht : t < n) (hn : (t : Int) ∉ keyW L) {W3 W5 : World} {v3 v5' : Value} {word : List Int} {b5' : Option Nat}
    (f3 : Fr [] (wr.setCell ⟨bk, t, none⟩ (.bool true)) W3) (n3 : NInB (fun b => (wr.setCell ⟨bk, t, none⟩ (.bool true)).heap.size ≤ b) W3 v3 word)
    (hr5 : Row 1 W5 v5' (keyW L ++ [(t : Int)]).length (ints (keyW L ++ [(t : Int)])) b5') (hb5 : b5' = b5 ∨ ∃ z, b5' = some z ∧ (W3.setCell ⟨bo, t, none⟩ v3).heap.size ≤ z) (f5 : Fr b5.toList (W3.setCell ⟨bo, t, none⟩ v3) W5) :
    CoI T n w bo bk (L ++ [((t : Int), word)]) W5 v5' b5' (us.set t v3) := by
  have f1 : Fr [bk] wr (wr.setCell ⟨bk, t, none⟩ (.bool true)) := (Fr.refl _ wr).setCell (.inl (by simp)) _
  have f4 : Fr [bo] W3 (W3.setCell ⟨bo, t, none⟩ v3) := (Fr.refl _ W3).setCell (.inl (by simp)) _
  have hlo := h.po.lt
  have hlk := h.pk.lt
  have s1 := f1.size; have s3 := f3.size; have s4 := f4.size
  have hl5 : ∀ z ∈ b5.toList, z < wr.heap.size ∧ z ≠ bo ∧ z ≠ bk ∧ w.heap.size ≤ z := fun z hz => by
    have hz' : b5 = some z := by simpa using hz
    have h3 := h.lr
    rw [hz'] at h3
    exact ⟨h3.lt, h.l5 z hz'⟩
  have hnb : ∀ b, b < (W3.setCell ⟨bo, t, none⟩ v3).heap.size → b ∉ b5.toList → b ∉ b5'.toList := fun b hb hq hm => by
    rcases hb5 with e | ⟨z, e, hz⟩
    · rw [e] at hm; exact hq hm
    · rw [e] at hm; simp at hm; omega
  have hne := h.ne
  refine ⟨f5.pt ((f3.pt (h.po.ne (p := ⟨bk, t, none⟩) hne _) (by simp)).set t v3) (fun hm => by have := hl5 _ hm; omega), by rw [List.length_set]; exact h.ln, fun s hs => ?_, ?_, ?_, fun z hz => ?_, hne, h.go, h.gk, ?_⟩
  · have hs' : s < us.length := by rw [List.length_set] at hs; exact hs
    rw [lookW_snoc L _ _ hn]
    by_cases e : s = t
    · subst e
      rw [if_pos rfl]
      rw [List.getElem_set_self]
      refine (n3.frq f4 (q' := fun b => (wr.setCell ⟨bk, s, none⟩ (.bool true)).heap.size ≤ b ∧ b < W3.heap.size) (fun b hb hq => ⟨by simp; omega, hq, hb⟩)).frq f5 (fun b hb hq => ?_)
      have h1 : b ∉ b5.toList := fun hm => by have := hl5 _ hm; omega
      exact ⟨h1, by omega, by omega, hnb b hb h1⟩
    · rw [if_neg (by omega), List.getElem_set_ne (fun e' => e e'.symm)]
      have g1 := (h.ws s hs').frq f1 (q' := fun b => b < wr.heap.size ∧ b ≠ bo ∧ b ≠ bk ∧ b ∉ b5.toList) (fun b hb hq => ⟨by simpa using hq.2.1, hb, hq⟩)
      have g2 := (g1.frq f3 (q' := fun b => b < wr.heap.size ∧ b ≠ bo ∧ b ≠ bk ∧ b ∉ b5.toList) (fun b hb hq => ⟨by simp, hq⟩)).frq f4 (q' := fun b => b < wr.heap.size ∧ b ≠ bo ∧ b ≠ bk ∧ b ∉ b5.toList) (fun b hb hq => ⟨by simpa using hq.2.1, hq⟩)
      exact g2.frq f5 (fun b hb hq => ⟨hq.2.2.2, hq.2.1, hq.2.2.1, hnb b hb hq.2.2.2⟩)
  · have p1 := h.pk.set t (.bool true)
    rw [bools_set] at p1
    have e1 : (fun j => if j = t then true else decide ((j : Int) ∈ keyW L)) = fun s : Nat => decide ((s : Int) ∈ keyW (L ++ [((t : Int), word)])) := by
      funext j
      by_cases e : j = t
      · subst e; simp
      · rw [if_neg e]
        simp [keyW]
        rw [show ((j : Int) = (t : Int)) = False by simp; omega]
        simp
    rw [e1] at p1
    exact f5.pt ((f3.pt p1 (by simp)).ne (p := ⟨bo, t, none⟩) (fun e => hne e.symm) _) (fun hm => by have := hl5 _ hm; omega)
  · rw [show keyW (L ++ [((t : Int), word)]) = keyW L ++ [(t : Int)] by simp [keyW]]; exact hr5
  · rcases hb5 with e | ⟨z', e, hz'⟩
    · exact h.l5 z (by rw [← e]; exact hz)
    · rw [hz] at e; cases e; have := h.fr.size; exact ⟨by omega, by omega, by omega⟩
  · have g1 : Fr [] w (wr.setCell ⟨bk, t, none⟩ (.bool true)) := h.fr.step f1 (fun z hz => .inr (by simp at hz; have := h.gk; omega))
    have g2 : Fr [] w (W3.setCell ⟨bo, t, none⟩ v3) := (g1.trans f3).step f4 (fun z hz => .inr (by simp at hz; have := h.go; omega))
    exact g2.step f5 (fun z hz => .inr (hl5 z hz).2.2.2)
theorem CoI.start (hT : VT T) (hn : T.st = (n : Int)) {s0 : Nat} (hs : T.sr = (s0 : Int)) {W : World} {bl : Nat} (po : Pt W bo 25 (List.replicate n (Value.slice none 0 0))) (pk : Pt W bk 4 (bools n (fun j => if j = s0 then true else false)))
    (pl : Pt W bl 3 [.int .i64 s0]) (h1 : bo ≠ bk) (h2 : bl ≠ bo) (h3 : bl ≠ bk) (go : w.heap.size ≤ bo) (gk : w.heap.size ≤ bk) (gl : w.heap.size ≤ bl) (f : Fr [] w W) :
    CoI T n w bo bk [(T.sr, [])] W (.slice (some ⟨bl, 0, none⟩) 1 1) (some bl) (List.replicate n (Value.slice none 0 0)) := by
  refine ⟨po, by simp, fun s hs => ?_, ?_, ?_, fun z hz => by cases hz; exact ⟨h2, h3, gl⟩, h1, go, gk, f⟩
  · rw [List.getElem_replicate]
    have e : lookW [(T.sr, ([] : List Int))] s = [] := by simp [lookW]
    rw [e]
    exact ⟨none, 0, rfl, fun i hi => by simp at hi⟩
  · have e1 : (fun j => if j = s0 then true else false) = fun s : Nat => decide ((s : Int) ∈ keyW [(T.sr, ([] : List Int))]) := by
      funext j
      simp only [keyW, List.map_cons, List.map_nil, List.mem_singleton, hs]
      by_cases e : j = s0
      · subst e; simp
      · rw [if_neg e]; symm; rw [decide_eq_false_iff_not]; omega
    rw [← e1]; exact pk
  · refine .inr ⟨bl, 0, 1, rfl, rfl, by simp, pl.lt, by simp [ints], fun j hj => ?_, fun j hj => ?_⟩
    · obtain rfl : j = 0 := by omega
      exact ⟨by rw [pl.cell]; rfl, pl.free 0⟩
    · obtain rfl : j = 0 := by simp at hj; omega
      rw [pl.cell]; simp [ints, hs]
/-- What cover hands back. -/
theorem CoI.out (h : CoI T n w bo bk (walkT T) wr v5 b5 us) (hn : T.st = (n : Int)) (hn1 : 1 ≤ n) : ∃ ps, wds ps = coverL T ∧ WSl wr (.slice (some ⟨bo, 0, none⟩) n n) ps := by
  have hlen : (us.zip (coverL T)).length = n := by
    rw [List.length_zip, h.ln]; unfold coverL; simp [hn]
  have hcl : (coverL T).length = n := by unfold coverL; simp [hn]
  refine ⟨us.zip (coverL T), ?_, .inr ⟨bo, 0, n, by rw [hlen], by omega, by omega, h.po.lt, fun i hi => ?_⟩, fun p hp => ?_⟩
  · unfold wds
    rw [List.map_snd_zip]
    rw [h.ln, hcl]; exact Nat.le_refl _
  · have hi' : i < us.length := by rw [h.ln]; omega
    rw [Nat.zero_add, h.po.cell, List.getElem_zip, List.getElem?_eq_getElem hi']
  · obtain ⟨i, hi, rfl⟩ := List.getElem_of_mem hp
    have hi' : i < us.length := by rw [h.ln]; omega
    rw [List.getElem_zip]
    have := (h.ws i hi').nin
    have e : (coverL T)[i]'(by rw [hcl]; omega) = lookW (walkT T) i := by unfold coverL; simp
    rw [e]; exact this
end Go.Proofs.Ytnggimkkjdipmaa
namespace Go.Proofs.Ytnggimkkjdipmaa
open Go.RowKit
set_option linter.unusedVariables false
set_option linter.unusedSimpArgs false
set_option maxHeartbeats 16000000
set_option maxRecDepth 100000
theorem rcover_any (T : Tb) (r : Value) (w : World) (hR : RIn w r T.rows) (hV : VT T) :
    Calls Try.prog 76 #[T.val r] w (PutR (coverL T) w) := by
  have hst := hV.st; have hev := hV.ev; have hsr := hV.sr
  obtain ⟨n, hn⟩ : ∃ n : Nat, T.st.toNat = n := ⟨_, rfl⟩
  obtain ⟨m, hm⟩ : ∃ n : Nat, T.ev.toNat = n := ⟨_, rfl⟩
  obtain ⟨s0, hs0⟩ : ∃ n : Nat, T.sr.toNat = n := ⟨_, rfl⟩
  have hnI : T.st = (n : Int) := by omega
  have hmI : T.ev = (m : Int) := by omega
  have hsI : T.sr = (s0 : Int) := by omega
  have hn30 : n ≤ 30 := by omega
  have hn1 : 1 ≤ n := by omega
  have hm30 : m ≤ 12 := by omega
  have hs0n : s0 < n := by omega
  have hs0I : (s0 : Int) < (n : Int) := by omega
  obtain ⟨BB, off, cap, rfl⟩ := hR.addr hV hnI
  rw [show T.val (.slice (some ⟨BB, off, none⟩) n cap) = .agg #[.int .i64 T.st, .int .i64 T.ev, .int .i64 T.sr, .slice (some ⟨BB, off, none⟩) n cap] from rfl]
  rw [hsI]
  obtain ⟨w1, hw1⟩ : ∃ x, w.alloc (.cells #[.int .i64 T.st, .int .i64 T.ev, .int .i64 s0, .slice (some ⟨BB, off, none⟩) n cap] RTab) = x := ⟨_, rfl⟩
  have P1 := Pt.newA w RTab #[.int .i64 T.st, .int .i64 T.ev, .int .i64 s0, .slice (some ⟨BB, off, none⟩) n cap]
  rw [hw1] at P1
  have F1 : Fr [] w w1 := by rw [← hw1]; exact (Fr.refl [] w).alloc _
  obtain ⟨b1, hb1⟩ : ∃ x, w.heap.size = x := ⟨_, rfl⟩
  rw [hb1] at P1
  have hmk := make_wds T.st w1 (by omega) (by omega)
  rw [hn] at hmk
  obtain ⟨w2, hw2⟩ : ∃ x, w1.alloc (.cells (List.replicate n (Value.slice none 0 0)).toArray 25) = x := ⟨_, rfl⟩
  have P2 := Pt.new w1 25 (List.replicate n (Value.slice none 0 0))
  have F2 : Fr [] w1 w2 := by rw [← hw2]; exact (Fr.refl [] w1).alloc _
  obtain ⟨b2, hb2⟩ : ∃ x, w1.heap.size = x := ⟨_, rfl⟩
  rw [hw2, hb2] at hmk P2
  have hmk3 := make_bools T.st w2 (by omega) (by omega)
  rw [hn, bools_zero] at hmk3
  obtain ⟨w3, hw3⟩ : ∃ x, w2.alloc (.cells (bools n fun _ => false).toArray 4) = x := ⟨_, rfl⟩
  have P3 := Pt.new w2 4 (bools n fun _ => false)
  have F3 : Fr [] w2 w3 := by rw [← hw3]; exact (Fr.refl [] w2).alloc _
  obtain ⟨b3, hb3⟩ : ∃ x, w2.heap.size = x := ⟨_, rfl⟩
  rw [hw3, hb3] at hmk3 P3
  have c3 : w3.cell? ⟨b3, s0, none⟩ = some (.bool false) := by rw [P3.cell, bools_get _ _ _ hs0n]
  have z3 := P3.free s0
  obtain ⟨w4, hw4⟩ : ∃ x, w3.setCell ⟨b3, s0, none⟩ (.bool true) = x := ⟨_, rfl⟩
  have P4 := P3.set s0 (.bool true)
  rw [bools_set, hw4] at P4
  have F4 : Fr [b3] w3 w4 := by rw [← hw4]; exact (Fr.refl _ w3).setCell (.inl (by simp)) _
  have l1 := P1.lt; have l2 := P2.lt; have l3 := P3.lt
  have s4 := F4.size
  have n12 : b1 < b2 := by omega
  have n23 : b2 < b3 := by omega
  have Q1 := F4.pt (F3.pt (F2.pt P1 (by simp)) (by simp)) (by simp; omega)
  have Q1a := F2.pt P1 (by simp)
  have Q1b := F3.pt Q1a (by simp)
  have Q2 := F4.pt (F3.pt P2 (by simp)) (by simp; omega)
  have k1 := P1.cell
  have k1a : w2.cell? ⟨b1, 0, none⟩ = some (.int .i64 T.st) := Q1a.cell 0
  have k1b : w3.cell? ⟨b1, 2, none⟩ = some (.int .i64 s0) := Q1b.cell 2
  have k1c : w4.cell? ⟨b1, 2, none⟩ = some (.int .i64 s0) := Q1.cell 2
  have FW4 : Fr [] w1 w4 := (F2.trans F3).step F4 (fun z hz => .inr (by simp at hz; have := F2.size; omega))
  obtain ⟨w5, hw5⟩ : ∃ x, w4.alloc (.cells #[.int .i64 s0] 3) = x := ⟨_, rfl⟩
  have P5 := Pt.newA w4 3 #[.int .i64 s0]
  have F5 : Fr [] w4 w5 := by rw [← hw5]; exact (Fr.refl [] w4).alloc _
  rw [hw5] at P5
  have I0 : CoI T n w1 b2 b3 [(T.sr, [])] w5 (.slice (some ⟨w4.heap.size, 0, none⟩) 1 1) (some w4.heap.size) (List.replicate n (Value.slice none 0 0)) :=
    CoI.start hV hnI hsI (F5.pt Q2 (by simp)) (F5.pt P4 (by simp)) P5 (by omega) (by omega) (by omega) (by omega) (by have := F2.size; omega) (by have := FW4.size; omega) (FW4.trans F5)
  have W0 := WcO.start hV
  have hwl := hR.fr F1
  replace hR := Lib.hid hR; replace hV := Lib.hid hV; replace hn := Lib.hid hn; replace hm := Lib.hid hm; replace hs0 := Lib.hid hs0; replace hnI := Lib.hid hnI; replace hmI := Lib.hid hmI; replace hsI := Lib.hid hsI; replace hst := Lib.hid hst; replace hev := Lib.hid hev; replace hsr := Lib.hid hsr; replace P1 := Lib.hid P1; replace P2 := Lib.hid P2; replace P3 := Lib.hid P3; replace P4 := Lib.hid P4; replace P5 := Lib.hid P5; replace F1 := Lib.hid F1; replace F2 := Lib.hid F2; replace F3 := Lib.hid F3; replace F4 := Lib.hid F4; replace F5 := Lib.hid F5; replace FW4 := Lib.hid FW4; replace Q1 := Lib.hid Q1; replace Q1a := Lib.hid Q1a; replace Q1b := Lib.hid Q1b; replace Q2 := Lib.hid Q2; replace I0 := Lib.hid I0; replace W0 := Lib.hid W0; replace hwl := Lib.hid hwl; replace hw5 := Lib.hid hw5
  go_enter Try.func76, Try.ntmps76
  go_wp2_with fail
  rw [hw5.out]
  obtain ⟨bl, hbl⟩ : ∃ x, w4.heap.size = x := ⟨_, rfl⟩
  rw [hbl] at I0 ⊢
  clear hmk hmk3 c3 z3 hw2 hw3 hw4 k1 k1a k1b k1c hb1 hb2 hb3 hw1 hbl
  have QB := fun (W : World) (f : Fr [] w1 W) => (f.pt P1.out (by simp)).cell
  replace QB := Lib.hid QB
  go_loopg [5, 6] 40 (fun kk v5 v6 wr => ∃ (k : Nat) (L : List (Int × List Int)) (b5 : Option Nat) (us : List Value), kk + k = 40 ∧ v6 = .int .i64 k ∧ WcO T L k ∧ CoI T n w1 b2 b3 L wr v5 b5 us)
  case atStart => exact ⟨0, _, _, _, by omega, rfl, W0.out, I0.out⟩
  case round =>
    obtain ⟨k, L, b5, us, hk, rfl, hW, hI⟩ := hrel
    obtain ⟨wo, rfl⟩ : ∃ x : World, x = wr := ⟨_, rfl⟩
    obtain ⟨go, rfl⟩ : ∃ g : Nat, g = gk := ⟨_, rfl⟩
    obtain ⟨ol, cl, hv5⟩ := hI.lr.len
    rw [show (keyW L).length = L.length from List.length_map _] at hv5
    subst hv5
    have hL30 := hW.len hV.out
    by_cases hkl : k < L.length
    · as_aux_lemma =>
      have hkl2 : k < (keyW L).length := by unfold keyW; rw [List.length_map]; exact hkl
      have hklI : (k : Int) < L.length := by omega
      have hE := hW.enter hV.out hkl
      have hk30 : k < 30 := by omega
      have I1 := hI
      replace hW := Lib.hid hW; replace hI := Lib.hid hI; replace hE := Lib.hid hE; replace I1 := Lib.hid I1
      go_wp2_with fail
      go_loopg [5, 7] (m + 1) (fun kk v5 v7 wr => ∃ (e : Nat) (L : List (Int × List Int)) (b5 : Option Nat) (us : List Value), e ≤ m ∧ kk + e = m + 1 ∧ v7 = .int .i64 e ∧ WcE T L k e ∧ CoI T n w1 b2 b3 L wr v5 b5 us)
      case atStart => exact ⟨0, _, _, _, by omega, by omega, rfl, hE.out, I1.out⟩
      clear hW hI hE I1 hL30 hkl hkl2 hklI
      case round =>
        obtain ⟨e, L, b5, us, he, hk2, rfl, hE, hI⟩ := hrel
        obtain ⟨wi, rfl⟩ : ∃ x : World, x = wr := ⟨_, rfl⟩
        have k1 := QB.out wi hI.fr
        obtain ⟨ol, cl, hv5⟩ := hI.lr.len
        rw [show (keyW L).length = L.length from List.length_map _] at hv5
        subst hv5
        have hkl := hE.lt
        have hkl2 : k < (keyW L).length := by unfold keyW; rw [List.length_map]; exact hkl
        have hklI : (k : Int) < L.length := by omega
        by_cases hlt : e < m
        · have hltI : (e : Int) < T.ev := by rw [hmI.out]; omega
          have hltM : (e : Int) < (m : Int) := by omega
          have hmemL := List.getElem_mem hkl
          have hrng := hE.ok.rng _ hmemL
          obtain ⟨a, ha⟩ : ∃ a : Nat, L[k].1 = (a : Int) := ⟨L[k].1.toNat, by omega⟩
          have hg : L.getD k (0, []) = L[k] := by rw [List.getD_eq_getElem?_getD, List.getElem?_eq_getElem hkl]; rfl
          have hst := hE.step hV.out hltI
          have hwd := lookW_at L k hkl hE.ok.nd
          rw [hg, ha] at hst
          rw [ha] at hrng hwd
          have han : a < n := by have := hnI.out; omega
          have hanI : (a : Int) < (n : Int) := by omega
          obtain ⟨B2, off2, cap2, hBB, y1, y2, _⟩ := (hwl.out.fr hI.fr).at hV.out hmI.out a e hrng.2 hlt
          have hat := hV.out.atOk hrng.1 hrng.2 (e := (e : Int)) (by omega) hltI
          obtain ⟨bL, oL, hol, x1⟩ : ∃ bL oL, ol = some ⟨bL, oL, none⟩ ∧ wi.cell? ⟨bL, oL + k, none⟩ = some (.int .i64 (a : Int)) := by
            obtain ⟨o', c', e', hl'⟩ := hI.lr.nin
            rw [show (keyW L).length = L.length from List.length_map _] at e'
            cases e'
            obtain ⟨b', off', e2, _, hc⟩ := hl' k hkl2
            refine ⟨b', off', e2, ?_⟩
            rw [hc]
            have : (keyW L)[k] = L[k].1 := by simp [keyW]
            rw [this, ha]
          subst hol
          obtain ⟨nx, hnx⟩ : ∃ x, (T.at a e).1 = x := ⟨_, rfl⟩
          rw [hnx] at y2 hat hst
          have ID := hI.frz (Fr.refl [] wi).drew
          by_cases h0 : 0 ≤ nx
          · obtain ⟨t, rfl⟩ : ∃ t : Nat, nx = (t : Int) := ⟨nx.toNat, by omega⟩
            have htn : t < n := by have := hnI.out; omega
            have htnI : (t : Int) < (n : Int) := by omega
            have kc : wi.drew.cell? ⟨b3, t, none⟩ = some (.bool (decide ((t : Int) ∈ keyW L))) := by rw [ID.pk.cell, bools_get _ _ _ htn]
            have kc0 : wi.cell? ⟨b3, t, none⟩ = some (.bool (decide ((t : Int) ∈ keyW L))) := kc
            by_cases hin : (t : Int) ∈ keyW L
            · as_aux_lemma =>
              have hW2 := hst.2 (fun h => h.2 hin)
              rw [decide_eq_true hin] at kc kc0
              replace hE := Lib.hid hE; replace hI := Lib.hid hI; replace hmemL := Lib.hid hmemL; replace hrng := Lib.hid hrng; replace ha := Lib.hid ha; replace hg := Lib.hid hg; replace hst := Lib.hid hst; replace hwd := Lib.hid hwd; replace hat := Lib.hid hat; replace hnx := Lib.hid hnx; replace ID := Lib.hid ID; replace hin := Lib.hid hin; replace hW2 := Lib.hid hW2
              go_upto_region 11 with fail
              go_region
              go_wp2_with fail
              go_roundg (gk - 1)
              case measure => omega
              case rel => exact ⟨e + 1, _, _, _, by omega, by omega, by go_num, hW2.out, ID.out⟩
            · have hW2 := hst.1 ⟨h0, hin⟩
              rw [decide_eq_false hin] at kc kc0
              have z0 := ID.pk.free t
              obtain ⟨wk, hwk⟩ : ∃ x, wi.drew.setCell ⟨b3, t, none⟩ (.bool true) = x := ⟨_, rfl⟩
              have hwk2 : (wi.setCell ⟨b3, t, none⟩ (.bool true)).drew = wk := hwk
              have fk : Fr [b3] wi.drew wk := by rw [← hwk]; exact (Fr.refl _ _).setCell (.inl (by simp)) _
              have hus : a < us.length := by rw [ID.ln]; exact han
              have hwn := (ID.ws a hus).frq fk (q' := fun _ => True) (fun b _ h => ⟨by simpa using h.2.1, trivial⟩)
              rw [hwd] at hwn
              have hwl30 : L[k].2.length ≤ 30 := by have := hE.ok.len k hkl; have := hE.len hV.out; omega
              have CC := rcopy_any us[a] L[k].2 wk hwn.nin (by omega)
              have po1 := ID.po.ne (p := ⟨b3, t, none⟩) ID.ne (.bool true)
              rw [hwk] at po1
              have co1 := po1.cell a
              rw [List.getElem?_eq_getElem hus] at co1
              obtain ⟨ua, hua⟩ : ∃ x, us[a] = x := ⟨_, rfl⟩
              rw [hua] at co1 CC
              have cl1 : wk.cell? ⟨bL, oL + k, none⟩ = some (.int .i64 (a : Int)) := by
                obtain ⟨o', c', e', hl'⟩ := hI.lr.nin
                rw [show (keyW L).length = L.length from List.length_map _] at e'
                cases e'
                have hb5 : b5 = some bL := by
                  rcases hI.lr with ⟨_, h2, _⟩ | ⟨b, off, cap, hb, e9, _⟩
                  · omega
                  · simp only [Value.slice.injEq, Option.some.injEq, Addr.mk.injEq] at e9
                    rw [hb, e9.1.1]
                have hne : bL ≠ b3 := (hI.l5 bL hb5).2.1
                have hlt9 : bL < wi.heap.size := by have h3 := hI.lr; rw [hb5] at h3; exact h3.lt
                rw [fk.cell (p := ⟨bL, oL + k, none⟩) hlt9 (by simpa using hne)]
                exact x1
              have htI2 : (t : Int) < (us.length : Int) := by rw [ID.ln]; omega
              replace hE := Lib.hid hE; replace hI := Lib.hid hI; replace hmemL := Lib.hid hmemL; replace hrng := Lib.hid hrng; replace ha := Lib.hid ha; replace hg := Lib.hid hg; replace hst := Lib.hid hst; replace hwd := Lib.hid hwd; replace hat := Lib.hid hat; replace hnx := Lib.hid hnx; replace ID := Lib.hid ID; replace hin := Lib.hid hin; replace hW2 := Lib.hid hW2; replace hwk := Lib.hid hwk; replace hwk2 := Lib.hid hwk2; replace fk := Lib.hid fk; replace hwn := Lib.hid hwn; replace CC := Lib.hid CC; replace po1 := Lib.hid po1; replace hua := Lib.hid hua
              clear kc
              go_upto_region 11 with fail
              go_region
              go_upto_region 14 with fail
              rw [hwk2.out]
              clear kc0 z0 y1 y2 x1 k1
              go_wp2_with fail
              refine CC.out.mono ?_
              rintro e9 w8 ⟨v8, b8, rfl, hr8, hb8, f8⟩
              obtain ⟨v9, w9, b9, happ, hr9, hb9, f9⟩ := hr8.one (by omega) (e : Int)
              have s8 := f8.size
              have FK : Fr [] wk w9 := f8.step f9 (fun z hz => .inr (hb8 z (by simpa using hz)))
              have n9 : NInB (fun b => wk.heap.size ≤ b) w9 v9 (L[k].2 ++ [(e : Int)]) := hr9.ninb (fun z hz => by
                rcases hb9 with e' | ⟨z', e', h⟩
                · exact hb8 z (by rw [← e']; exact hz)
                · rw [hz] at e'; cases e'; omega)
              obtain ⟨o8, c8, rfl⟩ := hr8.len
              obtain ⟨o9, c9, hv9⟩ := hr9.len
              rw [List.length_append, List.length_singleton] at hv9
              subst hv9
              have po9 := FK.pt po1.out (by simp)
              have co9 := po9.cell t
              rw [List.getElem?_eq_getElem (by rw [ID.out.ln]; exact htn)] at co9
              have zo9 := po9.free t
              obtain ⟨w10, hw10⟩ : ∃ x, w9.setCell ⟨b2, t, none⟩ (.slice o9 (L[k].2.length + 1) c9) = x := ⟨_, rfl⟩
              have f10 : Fr [b2] w9 w10 := by rw [← hw10]; exact (Fr.refl _ _).setCell (.inl (by simp)) _
              have hl10 : Row 1 w10 (.slice (some ⟨bL, oL, none⟩) L.length cl) (keyW L).length (ints (keyW L)) b5 := by
                refine ((hI.out.lr.fr ((Fr.refl [] wi).drew) (by simp)).fr fk.out (fun z hz hm => ?_)).fr (FK.mono (by simp) : Fr [b2] wk w9) (fun z hz hm => ?_) |>.fr f10 (fun z hz hm => ?_)
                · simp at hm; exact (hI.out.l5 z hz).2.1 hm
                · simp at hm; exact (hI.out.l5 z hz).1 hm
                · simp at hm; exact (hI.out.l5 z hz).1 hm
              obtain ⟨v11, w11, b11, happ2, hr11, hb11, f11⟩ := hl10.one (by unfold keyW; rw [List.length_map]; have := hE.out.len hV.out; omega) (t : Int)
              have NX := ID.out.step htn hin.out (W3 := w9) (v3 := .slice o9 (L[k].2.length + 1) c9) (by rw [hwk.out]; exact FK) (by rw [hwk.out]; exact n9) hr11 (by rw [hw10]; exact hb11) (by rw [hw10]; exact f11)
              clear CC
              replace hr8 := Lib.hid hr8; replace hb8 := Lib.hid hb8; replace f8 := Lib.hid f8; replace happ := Lib.hid happ; replace hr9 := Lib.hid hr9; replace hb9 := Lib.hid hb9; replace f9 := Lib.hid f9; replace FK := Lib.hid FK; replace n9 := Lib.hid n9; replace po9 := Lib.hid po9; replace hw10 := Lib.hid hw10; replace f10 := Lib.hid f10; replace hl10 := Lib.hid hl10; replace happ2 := Lib.hid happ2; replace hr11 := Lib.hid hr11; replace hb11 := Lib.hid hb11; replace f11 := Lib.hid f11; replace NX := Lib.hid NX; replace s8 := Lib.hid s8
              go_upto_region 15 with (first | (at_builtin; refine wpList_append_run _ rfl _ _ _ rfl rfl rfl happ.out ?_))
              rw [hw10.out]
              clear co9 zo9 co1 cl1
              go_wp2_with (first | (at_builtin; refine wpList_append_run _ rfl _ _ _ rfl rfl rfl happ2.out ?_))
              go_roundg (gk - 1)
              case measure => omega
              case rel => exact ⟨e + 1, _, _, _, by omega, by omega, by go_num, hW2.out, NX.out⟩
          · as_aux_lemma =>
            have hW2 := hst.2 (fun h => h0 h.1)
            replace hE := Lib.hid hE; replace hI := Lib.hid hI; replace hmemL := Lib.hid hmemL; replace hrng := Lib.hid hrng; replace ha := Lib.hid ha; replace hg := Lib.hid hg; replace hst := Lib.hid hst; replace hwd := Lib.hid hwd; replace hat := Lib.hid hat; replace hnx := Lib.hid hnx; replace ID := Lib.hid ID; replace hW2 := Lib.hid hW2
            go_upto_region 11 with fail
            go_region
            go_wp2_with fail
            go_roundg (gk - 1)
            case measure => omega
            case rel => exact ⟨e + 1, _, _, _, by omega, by omega, by go_num, hW2.out, ID.out⟩
        · as_aux_lemma =>
          have hltI : ¬ (e : Int) < T.ev := by rw [hmI.out]; omega
          have hX := hE.exit hV.out hltI
          replace hE := Lib.hid hE; replace hI := Lib.hid hI; replace hX := Lib.hid hX
          go_wp2_with fail
          go_roundg (go - 1)
          case measure => omega
          case rel => exact ⟨k + 1, _, _, _, by omega, by go_num, hX.out, hI.out⟩
    · as_aux_lemma =>
      have hkl2 : ¬ k < (keyW L).length := by unfold keyW; rw [List.length_map]; exact hkl
      have hklI : ¬ (k : Int) < L.length := by omega
      have hfin := hW.fin hV.out hkl
      rw [hfin] at hI
      obtain ⟨ps, hps, hws⟩ := hI.out hnI.out hn1
      have GO : PutR (coverL T) w (.returned (.slice (some ⟨b2, 0, none⟩) n n)) wo := ⟨_, ps, rfl, hps, hws, F1.out.trans hI.fr⟩
      replace hW := Lib.hid hW; replace hI := Lib.hid hI; replace hfin := Lib.hid hfin; replace hps := Lib.hid hps; replace hws := Lib.hid hws; replace GO := Lib.hid GO
      go_wp2_with fail
      go_ret
      exact GO.out
end Go.Proofs.Ytnggimkkjdipmaa
namespace Go.Proofs.Ytnggimkkjdipmaa
open Go.RowKit
set_option linter.unusedVariables false
set_option linter.unusedSimpArgs false
set_option maxHeartbeats 16000000
set_option maxRecDepth 100000
/-! ### The reference's Cover and Least; Rows -/
theorem rCover_any (T : Tb) (v : Value) (w : World) (hT : TIn w v T) :
    Calls Try.prog 42 #[v] w (TlR (coverF T).1 (coverF T).2 w) := by
  obtain ⟨r, rfl, hR⟩ := hT
  rw [show T.val r = .agg #[.int .i64 T.st, .int .i64 T.ev, .int .i64 T.sr, r] from rfl]
  have VA : ∀ W, Fr [] w W → Calls Try.prog 20 #[.agg #[.int .i64 T.st, .int .i64 T.ev, .int .i64 T.sr, r]] W fun e w' => e = .returned (.bool (validT T)) ∧ Fr [] W w' := fun W f => rvalid_any T _ W ⟨r, rfl, hR.fr f⟩
  obtain ⟨⟨X, z⟩, hX⟩ : ∃ x, coverF T = x := ⟨_, rfl⟩
  rw [hX]
  dsimp only
  obtain ⟨w1, hw1⟩ : ∃ x, w.alloc (.cells #[.int .i64 T.st, .int .i64 T.ev, .int .i64 T.sr, r] RTab) = x := ⟨_, rfl⟩
  have P1 := Pt.newA w RTab #[.int .i64 T.st, .int .i64 T.ev, .int .i64 T.sr, r]
  rw [hw1] at P1
  have F1 : Fr [] w w1 := by rw [← hw1]; exact (Fr.refl [] w).alloc _
  obtain ⟨b1, hb1⟩ : ∃ x, w.heap.size = x := ⟨_, rfl⟩
  rw [hb1] at P1
  have k1 := P1.cell
  replace hR := Lib.hid hR; replace VA := Lib.hid VA; replace hX := Lib.hid hX; replace P1 := Lib.hid P1; replace F1 := Lib.hid F1
  go_enter Try.func42, Try.ntmps42
  go_wp2_with fail
  refine (VA.out _ F1.out).mono ?_
  rintro e w4 ⟨rfl, f4⟩
  have F4 := F1.out.trans f4
  have p1 := f4.pt P1.out (by simp)
  clear k1 hb1 hw1
  cases hv : validT T
  · have hx := hX.out
    unfold coverF at hx
    rw [hv] at hx
    obtain ⟨rfl, rfl⟩ : [] = X ∧ 1 = z := by simpa using hx
    clear hx
    have GO : TlR [] 1 w (.returned (.tuple #[.slice none 0 0, .int .i64 1])) w4 := ⟨_, [], rfl, rfl, ⟨.inl ⟨rfl, rfl⟩, by simp⟩, F4⟩
    replace hv := Lib.hid hv; replace F4 := Lib.hid F4; replace f4 := Lib.hid f4; replace p1 := Lib.hid p1; replace GO := Lib.hid GO
    go_wp2_with fail
    refine bodyPost_ret (v := .tuple #[.slice none 0 0, .int .i64 1]) (by simp [results, Try.results42, go_sem]) rfl GO.out
  · have hV := (validT_iff T).mp hv
    have hx := hX.out
    unfold coverF at hx
    rw [hv, if_pos rfl] at hx
    obtain ⟨hx1, rfl⟩ : coverL (leastT T) = X ∧ 0 = z := by simpa using hx
    have LE := rleast_any T _ w4 ⟨r, rfl, hR.out.fr F4⟩ hV
    rw [show T.val r = .agg #[.int .i64 T.st, .int .i64 T.ev, .int .i64 T.sr, r] from rfl] at LE
    have TE : ∀ r' W, RIn W r' (leastT T).rows → Calls Try.prog 76 #[.agg #[.int .i64 (leastT T).st, .int .i64 (leastT T).ev, .int .i64 (leastT T).sr, r']] W (PutR (coverL (leastT T)) W) := fun r' W h => rcover_any (leastT T) r' W h (least_valid hV)
    have c1 := p1.cell
    clear hx
    replace hv := Lib.hid hv; replace hV := Lib.hid hV; replace hx1 := Lib.hid hx1; replace F4 := Lib.hid F4; replace f4 := Lib.hid f4; replace p1 := Lib.hid p1; replace LE := Lib.hid LE; replace TE := Lib.hid TE
    go_wp2_with fail
    refine LE.out.mono ?_
    rintro e w7 ⟨rv, rfl, hRB, f7⟩
    have F7 := F4.out.trans f7
    have C3 := TE.out rv w7 hRB.rin
    clear c1
    replace hRB := Lib.hid hRB; replace f7 := Lib.hid f7; replace F7 := Lib.hid F7; replace C3 := Lib.hid C3
    go_wp2_with fail
    refine C3.out.mono ?_
    rintro e w8 ⟨v8, ps8, rfl, h8, W8, f8⟩
    have GO : TlR X 0 w (.returned (.tuple #[v8, .int .i64 0])) w8 := ⟨v8, ps8, rfl, h8.trans hx1.out, W8, F7.out.trans f8⟩
    replace h8 := Lib.hid h8; replace W8 := Lib.hid W8; replace f8 := Lib.hid f8; replace GO := Lib.hid GO
    go_wp2_with fail
    refine bodyPost_ret (v := .tuple #[v8, .int .i64 0]) (by simp [results, Try.results42, go_sem]) rfl GO.out
/-- What the reference's Least answers. -/
def LrR (T : Tb) (w : World) (e : Ending) (w' : World) : Prop :=
  ∃ (rv : Value) (X : Tb) (s : Int), e = .returned (.tuple #[.agg #[.int .i64 X.st, .int .i64 X.ev, .int .i64 X.sr, rv], .int .i64 s]) ∧ RIn w' rv X.rows ∧ ((validT T = true ∧ s = 0 ∧ X = leastT T) ∨ (validT T = false ∧ s = 1 ∧ X = ⟨0, 0, 0, []⟩)) ∧ Fr [] w w'
theorem RIn.nil0 (w : World) : RIn w (.slice Option.none 0 0) [] := ⟨_, 0, rfl, fun i hi => absurd hi (Nat.not_lt_zero _)⟩
theorem rLeast_any (T : Tb) (v : Value) (w : World) (hT : TIn w v T) :
    Calls Try.prog 40 #[v] w (LrR T w) := by
  obtain ⟨r, rfl, hR⟩ := hT
  rw [show T.val r = .agg #[.int .i64 T.st, .int .i64 T.ev, .int .i64 T.sr, r] from rfl]
  have VA : ∀ W, Fr [] w W → Calls Try.prog 20 #[.agg #[.int .i64 T.st, .int .i64 T.ev, .int .i64 T.sr, r]] W fun e w' => e = .returned (.bool (validT T)) ∧ Fr [] W w' := fun W f => rvalid_any T _ W ⟨r, rfl, hR.fr f⟩
  obtain ⟨w1, hw1⟩ : ∃ x, w.alloc (.cells #[.int .i64 T.st, .int .i64 T.ev, .int .i64 T.sr, r] RTab) = x := ⟨_, rfl⟩
  have P1 := Pt.newA w RTab #[.int .i64 T.st, .int .i64 T.ev, .int .i64 T.sr, r]
  rw [hw1] at P1
  have F1 : Fr [] w w1 := by rw [← hw1]; exact (Fr.refl [] w).alloc _
  obtain ⟨b1, hb1⟩ : ∃ x, w.heap.size = x := ⟨_, rfl⟩
  rw [hb1] at P1
  obtain ⟨w2, hw2⟩ : ∃ x, w1.alloc (.cells #[.int .i64 0, .int .i64 0, .int .i64 0, .slice none 0 0] RTab) = x := ⟨_, rfl⟩
  have P2 := Pt.newA w1 RTab #[.int .i64 0, .int .i64 0, .int .i64 0, .slice none 0 0]
  rw [hw2] at P2
  have F2 : Fr [] w1 w2 := by rw [← hw2]; exact (Fr.refl [] w1).alloc _
  obtain ⟨b2, hb2⟩ : ∃ x, w1.heap.size = x := ⟨_, rfl⟩
  rw [hb2] at P2
  have Q1 := F2.pt P1 (by simp)
  have k1 := Q1.cell
  have FA := F1.trans F2
  have hb2w : w.heap.size ≤ b2 := by have := F1.size; omega
  replace hR := Lib.hid hR; replace VA := Lib.hid VA; replace P1 := Lib.hid P1; replace F1 := Lib.hid F1; replace P2 := Lib.hid P2; replace F2 := Lib.hid F2; replace Q1 := Lib.hid Q1; replace FA := Lib.hid FA; replace hb2w := Lib.hid hb2w
  go_enter Try.func40, Try.ntmps40
  go_wp2_with fail
  refine (VA.out _ FA.out).mono ?_
  rintro e w4 ⟨rfl, f4⟩
  have F4 := FA.out.trans f4
  have p1 := f4.pt Q1.out (by simp)
  have p2 := f4.pt P2.out (by simp)
  clear k1 hb1 hw1 hb2 hw2
  cases hv : validT T
  · have c2 := p2.cell
    have z2 := p2.free
    have q3 := (((p2.set 0 (.int .i64 0)).set 1 (.int .i64 0)).set 2 (.int .i64 0)).set 3 (.slice none 0 0)
    have f5 : Fr [b2] w4 ((((w4.setCell ⟨b2, 0, none⟩ (.int .i64 0)).setCell ⟨b2, 1, none⟩ (.int .i64 0)).setCell ⟨b2, 2, none⟩ (.int .i64 0)).setCell ⟨b2, 3, none⟩ (.slice none 0 0)) := ((((Fr.refl _ w4).setCell (by simp) _).setCell (by simp) _).setCell (by simp) _).setCell (by simp) _
    obtain ⟨w5, hw5⟩ : ∃ x, (((w4.setCell ⟨b2, 0, none⟩ (.int .i64 0)).setCell ⟨b2, 1, none⟩ (.int .i64 0)).setCell ⟨b2, 2, none⟩ (.int .i64 0)).setCell ⟨b2, 3, none⟩ (.slice none 0 0) = x := ⟨_, rfl⟩
    rw [hw5] at q3 f5
    simp only [List.set_cons_zero, List.set_cons_succ] at q3
    have k3 := q3.cell
    have GO : LrR T w (.returned (.tuple #[.agg #[.int .i64 0, .int .i64 0, .int .i64 0, .slice none 0 0], .int .i64 1])) w5 := ⟨_, ⟨0, 0, 0, []⟩, 1, rfl, RIn.nil0 _, .inr ⟨hv, rfl, rfl⟩, F4.step f5 (fun q hq => .inr (by have := hb2w.out; simp at hq; omega))⟩
    replace hv := Lib.hid hv; replace F4 := Lib.hid F4; replace f4 := Lib.hid f4; replace p1 := Lib.hid p1; replace p2 := Lib.hid p2; replace q3 := Lib.hid q3; replace f5 := Lib.hid f5; replace GO := Lib.hid GO
    go_wp2_with fail
    refine bodyPost_ret (v := .tuple #[.agg #[.int .i64 0, .int .i64 0, .int .i64 0, .slice none 0 0], .int .i64 1]) (by simp [results, Try.results40, go_sem, k3]) rfl GO.out
  · have hV := (validT_iff T).mp hv
    have LE := rleast_any T _ w4 ⟨r, rfl, hR.out.fr F4⟩ hV
    rw [show T.val r = .agg #[.int .i64 T.st, .int .i64 T.ev, .int .i64 T.sr, r] from rfl] at LE
    have c1 := p1.cell
    replace hv := Lib.hid hv; replace hV := Lib.hid hV; replace F4 := Lib.hid F4; replace f4 := Lib.hid f4; replace p1 := Lib.hid p1; replace p2 := Lib.hid p2; replace LE := Lib.hid LE
    go_wp2_with fail
    refine LE.out.mono ?_
    rintro e w7 ⟨rv, rfl, hRB, f7⟩
    have F7 := F4.out.trans f7
    have p27 := f7.pt p2.out (by simp)
    have hRI := hRB.rin
    obtain ⟨orv, crv, hrv, _⟩ := hRI
    obtain ⟨nr, hnr⟩ : ∃ x, (leastT T).rows.length = x := ⟨_, rfl⟩
    rw [hnr] at hrv
    subst hrv
    obtain ⟨X, hXX⟩ : ∃ x, leastT T = x := ⟨_, rfl⟩
    rw [hXX] at hRB ⊢
    have c2 := p27.cell
    have z2 := p27.free
    have q3 := (((p27.set 0 (.int .i64 X.st)).set 1 (.int .i64 X.ev)).set 2 (.int .i64 X.sr)).set 3 (.slice orv nr crv)
    have f8 : Fr [b2] w7 ((((w7.setCell ⟨b2, 0, none⟩ (.int .i64 X.st)).setCell ⟨b2, 1, none⟩ (.int .i64 X.ev)).setCell ⟨b2, 2, none⟩ (.int .i64 X.sr)).setCell ⟨b2, 3, none⟩ (.slice orv nr crv)) := ((((Fr.refl _ w7).setCell (by simp) _).setCell (by simp) _).setCell (by simp) _).setCell (by simp) _
    obtain ⟨w8, hw8⟩ : ∃ x, (((w7.setCell ⟨b2, 0, none⟩ (.int .i64 X.st)).setCell ⟨b2, 1, none⟩ (.int .i64 X.ev)).setCell ⟨b2, 2, none⟩ (.int .i64 X.sr)).setCell ⟨b2, 3, none⟩ (.slice orv nr crv) = x := ⟨_, rfl⟩
    rw [hw8] at q3 f8
    simp only [List.set_cons_zero, List.set_cons_succ] at q3
    have k3 := q3.cell
    have hR8 := hRB.fr f8 (q' := fun _ => True) (fun b _ hq => ⟨fun hm => by have := p2.out.lt; simp at hm; omega, trivial⟩)
    have GO : LrR T w (.returned (.tuple #[.agg #[.int .i64 X.st, .int .i64 X.ev, .int .i64 X.sr, .slice orv nr crv], .int .i64 0])) w8 := ⟨_, X, 0, rfl, hR8.rin, .inl ⟨hv.out, rfl, hXX.symm⟩, F7.step f8 (fun q hq => .inr (by have := hb2w.out; simp at hq; omega))⟩
    clear c1
    replace hRB := Lib.hid hRB; replace f7 := Lib.hid f7; replace F7 := Lib.hid F7; replace p27 := Lib.hid p27; replace q3 := Lib.hid q3; replace f8 := Lib.hid f8; replace hR8 := Lib.hid hR8; replace GO := Lib.hid GO; replace hXX := Lib.hid hXX; replace hnr := Lib.hid hnr
    go_wp2_with fail
    refine bodyPost_ret (v := .tuple #[.agg #[.int .i64 X.st, .int .i64 X.ev, .int .i64 X.sr, .slice orv nr crv], .int .i64 0]) (by simp [results, Try.results40, go_sem, k3]) rfl GO.out
theorem rows_any (va vb : Value) (la lb : List (List Int)) (w : World) (hA : SIn w va la) (hB : SIn w vb lb) (hla : la.length ≤ 1000000000) (hln : ∀ x ∈ la, x.length ≤ 1000000000) :
    Calls Try.prog 43 #[va, vb] w fun e w' => e = .returned (.bool (decide (la = lb))) ∧ Fr [] w w' := by
  obtain ⟨oa, ca, rfl, ha⟩ := hA
  obtain ⟨ob, cb, rfl, hb⟩ := hB
  by_cases hab : (la.length : Int) = lb.length
  · have habn : la.length = lb.length := by omega
    obtain ⟨R, hR⟩ : ∃ x, decide (la = lb) = x := ⟨_, rfl⟩
    rw [hR, ← habn]
    clear hab
    replace ha := Lib.hid ha; replace hb := Lib.hid hb; replace hR := Lib.hid hR; replace habn := Lib.hid habn; replace hln := Lib.hid hln
    go_enter Try.func43, Try.ntmps43
    go_wp2_with fail
    go_loopg [5] (la.length + 1) (fun k v5 wr => ∃ i : Nat, i ≤ la.length ∧ k + i = la.length + 1 ∧ v5 = .int .i64 i ∧ la.take i = lb.take i ∧ Fr [] w wr)
    case atStart => exact ⟨0, by omega, by omega, rfl, by simp, Fr.refl _ _⟩
    case round =>
      obtain ⟨i, hi, hk, rfl, htk, hF⟩ := hrel
      obtain ⟨wi, rfl⟩ : ∃ x : World, x = wr := ⟨_, rfl⟩
      by_cases hlt : i < la.length
      · have hltI : (i : Int) < la.length := by omega
        have hltb : i < lb.length := by have := habn.out; omega
        obtain ⟨B1, f1, u1, rfl, hB1, x1, n1⟩ := ha.out i hlt
        obtain ⟨B2, f2, u2, rfl, hB2, y1, n2⟩ := hb.out i hltb
        have IC : ∀ W, Fr [] wi W → Calls Try.prog 21 #[u1, u2] W fun e w' => e = .returned (.bool (decide (la[i] = lb[i]))) ∧ Fr [] W w' := fun W f => ints_any _ _ _ _ W (n1.fr (hF.trans f)) (n2.fr (hF.trans f)) (by have := hln.out _ (List.getElem_mem hlt); omega)
        have KW : ∀ W, Fr [] wi W → (W.cell? ⟨B1, f1 + i, none⟩ = some u1 ∧ W.cell? ⟨B2, f2 + i, none⟩ = some u2) := fun W f => ⟨((hF.trans f).cell (p := ⟨B1, f1 + i, none⟩) hB1 (by simp)).trans x1, ((hF.trans f).cell (p := ⟨B2, f2 + i, none⟩) hB2 (by simp)).trans y1⟩
        have k9 := KW wi (Fr.refl _ _)
        obtain ⟨k9a, k9b⟩ := k9
        have hts := List.take_succ_eq_append_getElem hlt
        have htsb := List.take_succ_eq_append_getElem hltb
        obtain ⟨bb, hbb⟩ : ∃ x, decide (la[i] = lb[i]) = x := ⟨_, rfl⟩
        rw [hbb] at IC
        clear x1 y1
        replace htk := Lib.hid htk; replace hF := Lib.hid hF; replace hB1 := Lib.hid hB1; replace hB2 := Lib.hid hB2; replace n1 := Lib.hid n1; replace n2 := Lib.hid n2; replace IC := Lib.hid IC; replace KW := Lib.hid KW; replace hts := Lib.hid hts; replace htsb := Lib.hid htsb; replace hbb := Lib.hid hbb
        go_upto_region 6 with fail
        go_region_held3 (fun W => W.cell? ⟨B1, f1 + i, none⟩ = some u1 ∧ W.cell? ⟨B2, f2 + i, none⟩ = some u2)
          (first | exact KW.out _ (Fr.refl _ _).drew | exact KW.out _ G2.out)
          ((first
            | (go_at_call 21; refine (IC.out _ (Fr.refl _ _).drew).mono ?_; rintro e w2 ⟨rfl, f2⟩; have G2 := Lib.hid (((Fr.refl [] wi).drew).trans f2); replace f2 := Lib.hid f2)))
        all_goals
          have GF := Lib.hid (hF.out.trans G2.out)
          cases bb
          · have hres : R = false := by
              rw [← hR.out, decide_eq_false_iff_not]
              intro e
              subst e
              have := hbb.out
              simp at this
            subst hres
            clear k9a k9b
            go_wp2_with fail
            go_ret
            exact ⟨rfl, GF.out⟩
          · have htk2 : la.take (i + 1) = lb.take (i + 1) := by rw [hts.out, htsb.out, htk.out, of_decide_eq_true hbb.out]
            clear k9a k9b
            replace htk2 := Lib.hid htk2
            go_wp2_with fail
            go_roundg (gk - 1)
            case measure => omega
            case rel => exact ⟨i + 1, by omega, by omega, by go_num, htk2.out, GF.out⟩
      · have hltI : ¬ (i : Int) < la.length := by omega
        have hres : R = true := by
          rw [← hR.out, decide_eq_true_iff]
          have h1 := htk
          rw [List.take_of_length_le (by omega), List.take_of_length_le (by have := habn.out; omega)] at h1
          exact h1
        subst hres
        replace htk := Lib.hid htk; replace hF := Lib.hid hF
        go_wp2_with fail
        go_ret
        exact ⟨rfl, hF.out⟩
  · have hR : decide (la = lb) = false := by
      rw [decide_eq_false_iff_not]
      intro e; exact hab (by rw [e])
    rw [hR]
    replace ha := Lib.hid ha; replace hb := Lib.hid hb; replace hR := Lib.hid hR; replace hln := Lib.hid hln
    go_enter Try.func43, Try.ntmps43
    go_wp2_with fail
    go_ret
    exact ⟨rfl, Fr.refl _ _⟩
end Go.Proofs.Ytnggimkkjdipmaa
