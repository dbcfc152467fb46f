import Derived.Test.YtkkmjjddalpocaaDoorPlay1
namespace Go.Proofs.YtkkmjjddalpocaaDoor
open Go.RowKit
set_option linter.unusedVariables false
set_option linter.unusedSimpArgs false
set_option maxHeartbeats 8000000
set_option maxRecDepth 20000
theorem and_15 (k : Int) : bits .and .i64 k 15 = k % 16 := by
  have h : (k % 18446744073709551616).toNat &&& 15 = (k % 18446744073709551616).toNat % 16 := Nat.and_two_pow_sub_one_eq_mod _ 4
  unfold bits
  simp only [IntKind.bits]
  show IntKind.i64.wrap (((k % 18446744073709551616).toNat &&& 15 : Nat) : Int) = k % 16
  rw [h, IntKind.wrap_i64]
  omega
/-- A slice of numbers that came in. -/
def IntArg (w : World) (v : Value) (l : List Int) : Prop := ∃ (o : Option Addr) (cap : Nat), v = .slice o l.length cap ∧ (∀ x ∈ l, -9223372036854775808 ≤ x ∧ x ≤ 9223372036854775807) ∧
  ∀ (i : Nat) (h : i < l.length), ∃ b off, o = some ⟨b, off, none⟩ ∧ b < w.heap.size ∧ w.cell? ⟨b, off + i, none⟩ = some (.int .i64 l[i])
def popP (p : PS) (i : Int) : PS := if i = 0 then (match p.wa with | [] => p | e :: r => meetP { p with wa := r } 0 e) else (match p.wb with | [] => p | e :: r => meetP { p with wb := r } 1 e)
def askEv (k : Int) : Ev := ⟨0, 1, k % 16, k % 10, 0, ByteArray.empty⟩
def giveEv (k : Int) : Ev := ⟨0, 2, k % 16, 0, 0, ByteArray.empty⟩
def deedP (p : PS) (d k : Int) : PS := if d = 0 then meetP p 0 (askEv k) else if d = 1 then meetP p 1 (askEv k) else if d = 2 then meetP p 0 (giveEv k) else if d = 3 then meetP p 1 (giveEv k) else if d = 4 then popP p 0 else popP p 1
def stepP (p : PS) (n : Int) : PS := deedP p (n % 6) (n / 6)
def runP (p : PS) (l : List Int) : PS := l.foldl stepP p
theorem runP_snoc (p : PS) (l : List Int) (i : Nat) (h : i < l.length) : runP p (l.take (i + 1)) = stepP (runP p (l.take i)) l[i] := by
  unfold runP
  rw [List.take_succ_eq_append_getElem h, List.foldl_append]
  rfl
def startP (m t : Int) : PS := ⟨⟨true, m, t, -1, -1, -1, -1⟩, ⟨true, t, m, -1, -1, -1, -1⟩, [], []⟩
/-- One deed of the play, the memory told. -/
def PMx (base : Nat) (w : World) (bs bw b0 b1 : Nat) (p : PS) : Prop := ∃ v0 v1 o0 o1, PM base w bs bw b0 b1 p v0 v1 o0 o1
theorem PM.fr {base : Nat} {w w' : World} {bs bw b0 b1 : Nat} {p : PS} {v0 v1 : Value} {o0 o1 : Option Nat} (h : PM base w bs bw b0 b1 p v0 v1 o0 o1) (hf : Fr [] w w') : PM base w' bs bw b0 b1 p v0 v1 o0 o1 :=
  { sides := hf.pt h.sides (by simp), way := hf.pt h.way (by simp), row0 := h.row0.fr hf (by simp), row1 := h.row1.fr hf (by simp), apart := h.apart, new0 := h.new0, new1 := h.new1, sa := hf.pt h.sa (by simp), sb := hf.pt h.sb (by simp), ge := h.ge, ne := h.ne, inva := h.inva, invb := h.invb }
theorem setOk_comm (m t : Int) : setOk m t = setOk t m := by
  unfold setOk
  have : bits .and .i64 m t = bits .and .i64 t m := by unfold bits; simp [Nat.and_comm]
  rw [this]
  cases decide (0 ≤ m) <;> cases decide (m ≤ 15) <;> cases decide (0 ≤ t) <;> cases decide (t ≤ 15) <;> rfl
def orGives (s : Int) (l : List Ev) : Int := l.foldl (fun s e => if e.kind == 2 then bits .or .i64 s e.a else s) s
def playP (m t : Int) (ds : List Int) : Int × Int × Int × Int :=
  if setOk m t = true ∧ ds.length ≤ 300 then ((runP (startP m t) ds).a.mine, (runP (startP m t) ds).b.mine, orGives (orGives 0 (runP (startP m t) ds).wa) (runP (startP m t) ds).wb, 0) else (0, 0, 0, 1)
def PlayPost (R : Int × Int × Int × Int) (w : World) (e : Ending) (w' : World) : Prop := e = .returned (.tuple #[.agg #[.int .i64 R.1, .int .i64 R.2.1], .int .i64 R.2.2.1, .int .i64 R.2.2.2]) ∧ Below w.heap.size w w'
theorem tmod_cases (x m : Int) (hm : 0 < m) : (0 ≤ x % m ∧ x % m < m) ∧ ((x.tmod m = x % m ∧ (0 ≤ x ∨ x % m = 0)) ∨ (x.tmod m = x % m - m ∧ x < 0 ∧ x % m ≠ 0)) := by
  have h2 := Int.emod_nonneg x (show m ≠ 0 by omega)
  have h3 := Int.emod_lt_of_pos x hm
  refine ⟨⟨h2, h3⟩, ?_⟩
  rw [Int.tmod_eq_emod]
  split
  · rename_i h
    left
    refine ⟨by omega, ?_⟩
    rcases h with h | h
    · exact .inl h
    · exact .inr (Int.emod_eq_zero_of_dvd h)
  · rename_i h
    right
    have hx : x < 0 := by omega
    have hd : ¬ m ∣ x := fun hd => h (.inr hd)
    have : (m.natAbs : Int) = m := by omega
    refine ⟨by omega, hx, fun e => hd (Int.dvd_of_emod_eq_zero e)⟩
theorem tmod_norm (x m : Int) (hm : 0 < m) (hm2 : m < 100) : (wrap64 (x.tmod m + m)).tmod m = x % m := by
  obtain ⟨⟨h2, h3⟩, h | h⟩ := tmod_cases x m hm
  · rw [h.1]
    have : wrap64 (x % m + m) = x % m + m := by unfold wrap64; omega
    rw [this, Int.tmod_eq_emod_of_nonneg (by omega), Int.add_emod_right, Int.emod_emod_of_dvd _ (Int.dvd_refl m)]
  · rw [h.1]
    have : wrap64 (x % m - m + m) = x % m := by unfold wrap64; omega
    rw [this, Int.tmod_eq_emod_of_nonneg h2, Int.emod_emod_of_dvd _ (Int.dvd_refl m)]
theorem deed_num (n : Int) (h0 : -9223372036854775808 ≤ n) (h1 : n ≤ 9223372036854775807) :
    (wrap64 (n.tmod 6 + 6)).tmod 6 = n % 6 ∧ ((n.tmod 6 < 0 ∧ wrap64 (wrap64 (n.tdiv 6) - 1) = n / 6) ∨ (¬ n.tmod 6 < 0 ∧ wrap64 (n.tdiv 6) = n / 6)) ∧ (0 ≤ n % 6 ∧ n % 6 < 6) ∧ bits .and .i64 (n / 6) 15 = n / 6 % 16 ∧ (wrap64 ((n / 6).tmod 10 + 10)).tmod 10 = n / 6 % 10 := by
  refine ⟨tmod_norm n 6 (by omega) (by omega), ?_, ⟨by omega, by omega⟩, and_15 _, tmod_norm _ 10 (by omega) (by omega)⟩
  have e1 := Int.mul_tdiv_add_tmod n 6
  obtain ⟨⟨h2, h3⟩, h | h⟩ := tmod_cases n 6 (by omega)
  · right
    refine ⟨by omega, ?_⟩
    have : n.tdiv 6 = n / 6 := by omega
    rw [this]; unfold wrap64; omega
  · left
    refine ⟨by omega, ?_⟩
    have : n.tdiv 6 = n / 6 + 1 := by omega
    rw [this]; unfold wrap64; omega
theorem onSt_len (s : TS) (e : Ev) : (onSt s e).2.1.length ≤ 1 := by
  unfold onSt giveUp
  repeat' split
  all_goals simp
theorem stepT_len (s : TS) (e : Ev) : (stepT s e).2.1.length ≤ 1 := by
  unfold stepT
  split
  · exact onSt_len s e
  · simp
theorem downs_len (l : List Ev) : (downs l).length ≤ l.length := List.length_filter_le _ _
theorem meetP_len (p : PS) (i : Int) (e : Ev) : (meetP p i e).wa.length ≤ p.wa.length + 1 ∧ (meetP p i e).wb.length ≤ p.wb.length + 1 := by
  unfold meetP
  have h1 := downs_len (stepT p.a e).2.1; have h2 := stepT_len p.a e
  have h3 := downs_len (stepT p.b e).2.1; have h4 := stepT_len p.b e
  split
  · simp; omega
  · simp; omega
theorem popP_len (p : PS) (i : Int) : (popP p i).wa.length ≤ p.wa.length + 1 ∧ (popP p i).wb.length ≤ p.wb.length + 1 := by
  unfold popP
  split
  · split
    · omega
    · rename_i e r h
      have := meetP_len { p with wa := r } 0 e
      rw [h]; simp at this ⊢; omega
  · split
    · omega
    · rename_i e r h
      have := meetP_len { p with wb := r } 1 e
      rw [h]; simp at this ⊢; omega
theorem stepP_len (p : PS) (n : Int) : (stepP p n).wa.length ≤ p.wa.length + 1 ∧ (stepP p n).wb.length ≤ p.wb.length + 1 := by
  unfold stepP deedP
  repeat' split
  all_goals first | exact meetP_len _ _ _ | exact popP_len _ _
theorem runP_len' (l : List Int) : ∀ p : PS, (runP p l).wa.length ≤ p.wa.length + l.length ∧ (runP p l).wb.length ≤ p.wb.length + l.length := by
  induction l with
  | nil => intro p; exact ⟨Nat.le_refl _, Nat.le_refl _⟩
  | cons n l ih =>
    intro p
    have h1 := ih (stepP p n)
    have h2 := stepP_len p n
    show (runP (stepP p n) l).wa.length ≤ _ ∧ (runP (stepP p n) l).wb.length ≤ _
    simp only [List.length_cons]
    omega
theorem runP_len (m t : Int) (l : List Int) : (runP (startP m t) l).wa.length ≤ l.length ∧ (runP (startP m t) l).wb.length ≤ l.length := by
  have := runP_len' l (startP m t)
  simpa [startP] using this
theorem deed_0 (q : PS) (k : Int) : deedP q 0 k = meetP q 0 (askEv k) := by simp [deedP]
theorem deed_1 (q : PS) (k : Int) : deedP q 1 k = meetP q 1 (askEv k) := by simp [deedP]
theorem deed_2 (q : PS) (k : Int) : deedP q 2 k = meetP q 0 (giveEv k) := by simp [deedP]
theorem deed_3 (q : PS) (k : Int) : deedP q 3 k = meetP q 1 (giveEv k) := by simp [deedP]
theorem deed_4 (q : PS) (k : Int) : deedP q 4 k = popP q 0 := by simp [deedP]
theorem deed_5 (q : PS) (k : Int) : deedP q 5 k = popP q 1 := by simp [deedP]
theorem play_bad (m t : Int) (dv : Value) (ds : List Int) (w : World) (hD : IntArg w dv ds) (hbad : setOk m t = false ∨ 300 < ds.length) :
    Calls Tryd.prog 23 #[.int .i64 m, .int .i64 t, dv] w (PlayPost (0, 0, 0, 1) w) := by
  obtain ⟨o, cap, rfl, _, hl⟩ := hD
  have P0 := Pt.newA w 53 #[.int .i64 0, .int .i64 0]
  obtain ⟨w0, hw0⟩ : ∃ x, w.alloc (.cells #[.int .i64 0, .int .i64 0] 53) = x := ⟨_, rfl⟩
  have f0 : Fr [] w w0 := by rw [← hw0]; exact (Fr.refl [] w).alloc _
  rw [hw0] at P0
  obtain ⟨br, hbr⟩ : ∃ x, w.heap.size = x := ⟨_, rfl⟩
  rw [hbr] at P0
  cases hs : setOk m t
  · have h1 := Lib.hid (tNew_bad m t w0 hs)
    clear hbad hl
    go_enter Tryd.func23, Tryd.ntmps23
    go_wp2_with fail
    refine h1.out.mono ?_
    rintro e w1 ⟨rfl, f1⟩
    have P1 := f1.pt P0 (by simp)
    have c1 := P1.cell
    have z1 := P1.free
    go_wp2_with fail
    refine bodyPost_ret (v := .tuple #[.agg #[.int .i64 0, .int .i64 0], .int .i64 0, .int .i64 1]) (by simp [results, Tryd.results23, go_sem, c1]) rfl ⟨rfl, ?_⟩
    have F : Fr [br] w w1 := (f0.trans f1).mono (by simp)
    exact ((F.setCell (by simp) _).setCell (by simp) _).below (Nat.le_refl _) (by simp; omega)
  · have hlen : (300 : Int) < ds.length := by
      rcases hbad with h | h
      · rw [hs] at h; cases h
      · omega
    have h1 := Lib.hid (tNew_ok m t w0 hs)
    clear hbad hl
    go_enter Tryd.func23, Tryd.ntmps23
    go_wp2_with fail
    refine h1.out.mono ?_
    rintro e w1 ⟨rfl, q1, f1⟩
    have P1 := f1.pt P0 (by simp)
    have c1 := P1.cell
    have z1 := P1.free
    clear q1
    go_wp2_with fail
    refine bodyPost_ret (v := .tuple #[.agg #[.int .i64 0, .int .i64 0], .int .i64 0, .int .i64 1]) (by simp [results, Tryd.results23, go_sem, c1]) rfl ⟨rfl, ?_⟩
    have F : Fr [br] w w1 := (f0.trans f1).mono (by simp)
    exact ((F.setCell (by simp) _).setCell (by simp) _).below (Nat.le_refl _) (by simp; omega)
theorem evCells_at (l : List Ev) : ∀ (i : Nat) (h : i < l.length) (j : Nat), j < 6 → (evCells l)[i * 6 + j]? = l[i].cells[j]? := by
  induction l with
  | nil => intro i h; simp at h
  | cons e l ih =>
    intro i h j hj
    show (e.cells ++ evCells l)[i * 6 + j]? = _
    have h6 : e.cells.length = 6 := rfl
    cases i with
    | zero => rw [List.getElem?_append_left (by omega)]; simp
    | succ i =>
      rw [List.getElem?_append_right (by omega), show (i + 1) * 6 + j - e.cells.length = i * 6 + j by omega, ih i (by simpa using h) j hj]
      rfl
theorem Row.evs {w : World} {v : Value} {l : List Ev} {bo : Option Nat} (h : Row 6 w v l.length (evCells l) bo) : EvArg w v l := by
  rcases h with ⟨_, h2, _, o, rfl⟩ | ⟨b, off, cap, _, rfl, _, h4, _, _, h7⟩
  · exact ⟨o, 0, by rw [h2], fun i h => by omega⟩
  · exact ⟨_, cap, rfl, fun i h => ⟨b, off, rfl, h4, fun j hj => by rw [Nat.add_assoc, h7 _ (by omega)]; exact evCells_at l i h j hj⟩⟩
theorem orGives_snoc (s : Int) (l : List Ev) (i : Nat) (h : i < l.length) : orGives s (l.take (i + 1)) = if l[i].kind = 2 then bits .or .i64 (orGives s (l.take i)) l[i].a else orGives s (l.take i) := by
  unfold orGives
  rw [List.take_succ_eq_append_getElem h, List.foldl_append]
  simp
theorem uWays : Tryd.prog.underlying TWays = some (.array 2 22) := by kernel_rfl
theorem way_0 (a b : Value) : ∀ w : World, (Instr.index TWays (.agg #[a, b]) (.int .i64 0)).run Tryd.prog w = .ok a w := fun w => by
  simp [Instr.index, run_underlying uWays, asIntOf, go_sem]
theorem way_1 (a b : Value) : ∀ w : World, (Instr.index TWays (.agg #[a, b]) (.int .i64 1)).run Tryd.prog w = .ok b w := fun w => by
  simp [Instr.index, run_underlying uWays, asIntOf, go_sem]
def onw (p : PS) (i : Nat) : Int := if i = 0 then 0 else if i = 1 then orGives 0 p.wa else orGives (orGives 0 p.wa) p.wb
/-- Up to the loop over the deeds. -/
theorem play_any (m t : Int) (dv : Value) (ds : List Int) (w : World) (hT : Tab w) (hD : IntArg w dv ds) (hok : setOk m t = true) (hlen : ds.length ≤ 300) :
    Calls Tryd.prog 23 #[.int .i64 m, .int .i64 t, dv] w (PlayPost (playP m t ds) w) := by
  have hPP : playP m t ds = ((runP (startP m t) ds).a.mine, (runP (startP m t) ds).b.mine, orGives (orGives 0 (runP (startP m t) ds).wa) (runP (startP m t) ds).wb, 0) := if_pos ⟨hok, hlen⟩
  rw [hPP]
  replace hPP := Lib.hid hPP
  obtain ⟨o, cap, rfl, hrange, hl⟩ := hD
  have hlenI : ¬ ((300 : Int) < ds.length) := by omega
  have P0 := Pt.newA w 53 #[.int .i64 0, .int .i64 0]
  obtain ⟨w0, hw0⟩ : ∃ x, w.alloc (.cells #[.int .i64 0, .int .i64 0] 53) = x := ⟨_, rfl⟩
  have f0 : Fr [] w w0 := by rw [← hw0]; exact (Fr.refl [] w).alloc _
  rw [hw0] at P0
  obtain ⟨br, hbr⟩ : ∃ x, w.heap.size = x := ⟨_, rfl⟩
  rw [hbr] at P0
  have h1 := Lib.hid (tNew_ok m t w0 hok)
  have h2 := Lib.hid (fun w => tNew_ok t m w (by rw [setOk_comm]; exact hok))
  replace hl := Lib.hid hl
  replace hrange := Lib.hid hrange
  replace P0 := Lib.hid P0
  replace f0 := Lib.hid f0
  replace hT := Lib.hid hT
  go_enter Tryd.func23, Tryd.ntmps23
  go_wp2_with fail
  refine h1.out.mono ?_
  rintro e w1 ⟨rfl, q1, f1⟩
  obtain ⟨b0, hb0⟩ : ∃ x, w0.heap.size = x := ⟨_, rfl⟩
  rw [hb0] at q1
  simp only [hb0]
  have l0 : br < b0 := by have := P0.out.lt; omega
  replace q1 := Lib.hid q1
  replace f1 := Lib.hid f1
  go_wp2_with fail
  refine (h2.out w1).mono ?_
  rintro e w2 ⟨rfl, q2, f2⟩
  obtain ⟨b1, hb1⟩ : ∃ x, w1.heap.size = x := ⟨_, rfl⟩
  rw [hb1] at q2
  simp only [hb1]
  have l1 : b0 < b1 := by have := q1.out.lt; omega
  have l2 : b1 < w2.heap.size := q2.lt
  replace q2 := Lib.hid q2
  replace f2 := Lib.hid f2
  obtain ⟨w3, hw3⟩ : ∃ x, w2.alloc (.cells #[.pointer (some ⟨b0, 0, none⟩), .pointer (some ⟨b1, 0, none⟩)] TSides) = x := ⟨_, rfl⟩
  obtain ⟨w4, hw4⟩ : ∃ x, w3.alloc (.cells #[.slice none 0 0, .slice none 0 0] TWays) = x := ⟨_, rfl⟩
  obtain ⟨bs, hbs⟩ : ∃ x, w2.heap.size = x := ⟨_, rfl⟩
  obtain ⟨bw, hbw⟩ : ∃ x, w3.heap.size = x := ⟨_, rfl⟩
  have PS3 : Pt w3 bs TSides [.pointer (some ⟨b0, 0, none⟩), .pointer (some ⟨b1, 0, none⟩)] := by rw [← hw3, ← hbs]; exact Pt.newA _ _ _
  have PW4 : Pt w4 bw TWays [.slice none 0 0, .slice none 0 0] := by rw [← hw4, ← hbw]; exact Pt.newA _ _ _
  have g3 : Fr [] w2 w3 := by rw [← hw3]; exact (Fr.refl [] w2).alloc _
  have g4 : Fr [] w3 w4 := by rw [← hw4]; exact (Fr.refl [] w3).alloc _
  have lbw : bs < bw := by have := PS3.lt; omega
  have G : Fr [] w0 w4 := f1.out.trans (f2.out.trans (g3.trans g4))
  have T4 : Tab w4 := hT.out.fr (f0.out.trans G) (by simp) hT.out.lt
  have hi1 : Inv (startP m t).a := ⟨rfl, hok⟩
  have hi2 : Inv (startP m t).b := ⟨rfl, by show setOk t m = true; rw [setOk_comm]; exact hok⟩
  have M4 : PMx b0 w4 bs bw b0 b1 (startP m t) := ⟨_, _, none, none, { sides := g4.pt PS3 (by simp), way := PW4, row0 := Row.nil 6 w4 none, row1 := Row.nil 6 w4 none, apart := by simp, new0 := by simp, new1 := by simp, sa := (f2.out.trans (g3.trans g4)).pt q1.out (by simp), sb := (g3.trans g4).pt q2.out (by simp), ge := by omega, ne := by omega, inva := hi1, invb := hi2 }⟩
  replace G := Lib.hid (G.below (n := b0) (by omega) (by simp))
  replace M4 := Lib.hid M4
  replace PS3 := Lib.hid PS3; replace PW4 := Lib.hid PW4; replace g3 := Lib.hid g3; replace g4 := Lib.hid g4; replace T4 := Lib.hid T4
  clear hi1 hi2
  go_wp2_with fail
  go_loopw [51] (fun v wr => ∃ (i : Nat), i ≤ ds.length ∧ v = .int .i64 i ∧ PMx b0 wr bs bw b0 b1 (runP (startP m t) (ds.take i)) ∧ Below b0 w0 wr) (fun v _ => (ds.length - intOf v).toNat)
  case atStart => exact ⟨0, by omega, rfl, M4.out, G.out⟩
  case round =>
    obtain ⟨i, hi0, rfl, hM, hB⟩ := hrel
    by_cases hlt : (i : Int) < ds.length
    · have hil : i < ds.length := by omega
      obtain ⟨B, off, rfl, hBl, hc⟩ := hl.out i hil
      obtain ⟨n, hn⟩ : ∃ n, ds[i] = n := ⟨_, rfl⟩
      have hnr := hrange.out _ (List.getElem_mem hil)
      rw [hn] at hc hnr
      have hcr : wr.cell? ⟨B, off + i, none⟩ = some (.int .i64 n) := by
        have hBB : B < b0 := by omega
        rw [hB.cell (p := ⟨B, off + i, none⟩) hBB, f0.out.cell (p := ⟨B, off + i, none⟩) hBl (by simp)]; exact hc
      replace hc := Lib.hid hc; replace hM := Lib.hid hM; replace hB := Lib.hid hB; replace hn := Lib.hid hn
      clear hw3 hw4 hw0
      obtain ⟨E1, E4, E7, E5, E6⟩ := deed_num n hnr.1 hnr.2
      have hst : Hid (runP (startP m t) (ds.take (i + 1)) = deedP (runP (startP m t) (ds.take i)) (n % 6) (n / 6)) := by
        show _ = _
        rw [runP_snoc _ _ _ hil, hn.out]; rfl
      have hql := Lib.hid (runP_len m t (ds.take i))
      obtain ⟨q, hq⟩ : ∃ q, runP (startP m t) (ds.take i) = q := ⟨_, rfl⟩
      obtain ⟨d, hd⟩ : ∃ d, n % 6 = d := ⟨_, rfl⟩
      obtain ⟨k, hk⟩ : ∃ k, n / 6 = k := ⟨_, rfl⟩
      rw [hq, hd, hk] at hst
      rw [hq] at hM hql
      rw [hd] at E1 E7
      rw [hk] at E4 E5 E6
      have W0 : wrap64 0 = 0 := by decide +kernel
      have W1 : wrap64 1 = 1 := by decide +kernel
      have W2 : wrap64 2 = 2 := by decide +kernel
      have A0 : bits .and .i64 0 1 = 0 := by decide
      have A1 : bits .and .i64 1 1 = 1 := by decide
      have A2 : bits .and .i64 2 1 = 0 := by decide
      have A3 : bits .and .i64 3 1 = 1 := by decide
      have A4 : bits .and .i64 4 1 = 0 := by decide
      have A5 : bits .and .i64 5 1 = 1 := by decide
      have Tr : Tab wr := fun j hj => by
        rw [hB.out.cell (p := ⟨1, j, none⟩) (by have := hT.out.lt; show 1 < b0; omega)]
        exact hT.out.fr f0.out (by simp) hT.out.lt j hj
      have lens : q.wa.length < 1000000 ∧ q.wb.length < 1000000 := by have := hql.out; rw [List.length_take] at this; omega
      replace Tr := Lib.hid Tr; replace lens := Lib.hid lens
      obtain ⟨v0, v1, o0, o1, HM⟩ := hM.out
      replace HM := Lib.hid HM
      clear hM hql hq hd hk hnr
      obtain ⟨ka, hka⟩ : ∃ x, k % 16 = x := ⟨_, rfl⟩
      obtain ⟨kb, hkb⟩ : ∃ x, k % 10 = x := ⟨_, rfl⟩
      rw [hka] at E5
      rw [hkb] at E6
      have hkA : Hid (askEv k = ⟨0, 1, ka, kb, 0, ByteArray.empty⟩) := by show _ = _; rw [askEv, hka, hkb]
      have hkG : Hid (giveEv k = ⟨0, 2, ka, 0, 0, ByteArray.empty⟩) := by show _ = _; rw [giveEv, hka]
      clear hka hkb
      rcases (by omega : d = 0 ∨ d = 1 ∨ d = 2 ∨ d = 3 ∨ d = 4 ∨ d = 5) with rfl | rfl | rfl | rfl | rfl | rfl
      · rcases E4 with ⟨E4, E8⟩ | ⟨E4, E8⟩
        all_goals
          go_wp2_with fail
          refine (meet_0 b0 ⟨0, 1, ka, kb, 0, ByteArray.empty⟩ wr bs bw b0 b1 q v0 v1 o0 o1 HM.out Tr.out lens.out.2).mono ?_
          rintro e w5 ⟨rfl, ⟨v', o', hM'⟩, hB'⟩
          replace hM' := Lib.hid hM'
          replace hB' := Lib.hid hB'
          go_wp2
          go_roundw
          case rel => exact ⟨i + 1, by omega, by go_num, by rw [hst.out]; rw [deed_0, hkA.out]; exact ⟨_, _, _, _, hM'.out⟩, hB.out.trans hB'.out⟩
          case measure => simp [intOf]; omega
      · rcases E4 with ⟨E4, E8⟩ | ⟨E4, E8⟩
        all_goals
          go_wp2_with fail
          refine (meet_1 b0 ⟨0, 1, ka, kb, 0, ByteArray.empty⟩ wr bs bw b0 b1 q v0 v1 o0 o1 HM.out Tr.out lens.out.1).mono ?_
          rintro e w5 ⟨rfl, ⟨v', o', hM'⟩, hB'⟩
          replace hM' := Lib.hid hM'
          replace hB' := Lib.hid hB'
          go_wp2
          go_roundw
          case rel => exact ⟨i + 1, by omega, by go_num, by rw [hst.out]; rw [deed_1, hkA.out]; exact ⟨_, _, _, _, hM'.out⟩, hB.out.trans hB'.out⟩
          case measure => simp [intOf]; omega
      · rcases E4 with ⟨E4, E8⟩ | ⟨E4, E8⟩
        all_goals
          go_wp2_with fail
          refine (meet_0 b0 ⟨0, 2, ka, 0, 0, ByteArray.empty⟩ wr bs bw b0 b1 q v0 v1 o0 o1 HM.out Tr.out lens.out.2).mono ?_
          rintro e w5 ⟨rfl, ⟨v', o', hM'⟩, hB'⟩
          replace hM' := Lib.hid hM'
          replace hB' := Lib.hid hB'
          go_wp2
          go_roundw
          case rel => exact ⟨i + 1, by omega, by go_num, by rw [hst.out]; rw [deed_2, hkG.out]; exact ⟨_, _, _, _, hM'.out⟩, hB.out.trans hB'.out⟩
          case measure => simp [intOf]; omega
      · rcases E4 with ⟨E4, E8⟩ | ⟨E4, E8⟩
        all_goals
          go_wp2_with fail
          refine (meet_1 b0 ⟨0, 2, ka, 0, 0, ByteArray.empty⟩ wr bs bw b0 b1 q v0 v1 o0 o1 HM.out Tr.out lens.out.1).mono ?_
          rintro e w5 ⟨rfl, ⟨v', o', hM'⟩, hB'⟩
          replace hM' := Lib.hid hM'
          replace hB' := Lib.hid hB'
          go_wp2
          go_roundw
          case rel => exact ⟨i + 1, by omega, by go_num, by rw [hst.out]; rw [deed_3, hkG.out]; exact ⟨_, _, _, _, hM'.out⟩, hB.out.trans hB'.out⟩
          case measure => simp [intOf]; omega
      · cases hwq : q.wa with
        | nil =>
          have hp : popP q 0 = q := by simp [popP, hwq]
          have hrow := HM.out.row0
          obtain ⟨oz, cz, hvz⟩ := hrow.len
          rw [hwq] at hvz
          simp only [List.length_nil] at hvz
          subst hvz
          have hwc := HM.out.way.cell
          have h02 : (1 : Int) < 2 := by omega
          clear hrow
          rcases E4 with ⟨E4, E8⟩ | ⟨E4, E8⟩
          all_goals
            go_wp2
            go_roundw
            case rel => exact ⟨i + 1, by omega, by go_num, by rw [hst.out, deed_4, hp]; exact ⟨_, _, _, _, HM.out⟩, hB.out⟩
            case measure => simp [intOf]; omega
        | cons ev r =>
          have hp : popP q 0 = meetP { q with wa := r } 0 ev := by simp [popP, hwq]
          replace hp := Lib.hid hp
          have hrow := HM.out.row0
          rw [hwq] at hrow
          rcases hrow with ⟨_, h, _⟩ | ⟨bq, oq, cap2, rfl, rfl, h3, h4, h5, h6, h7⟩
          · simp at h
          obtain ⟨wq, hwqe⟩ : ∃ x, wr.alloc (.cells ev.cells.toArray TEv) = x := ⟨_, rfl⟩
          have PQ := Pt.newA wr TEv ev.cells.toArray
          rw [hwqe] at PQ
          have FQ : Fr [] wr wq := by rw [← hwqe]; exact (Fr.refl [] wr).alloc _
          obtain ⟨bz, hbz⟩ : ∃ x, wr.heap.size = x := ⟨_, rfl⟩
          rw [hbz] at PQ
          have cq : ∀ j, j < 6 → wr.cell? ⟨bq, oq + j, none⟩ = ev.cells[j]? := fun j hj => by
            rw [h7 j (by simp; omega)]
            show (ev.cells ++ evCells r)[j]? = _
            rw [List.getElem?_append_left (show j < 6 from hj)]
          have hwc := HM.out.way.cell
          have PW := FQ.pt HM.out.way (by simp)
          have hwq2 := PW.cell
          have hwz2 := PW.free
          have cz := PQ.cell
          have hbwl : bw < bz := by have := HM.out.way.lt; omega
          have hne1 : bz ≠ bw := by omega
          have hne2 : bw ≠ bz := by omega
          -- the row that is left, and the memory behind the store
          have LEFT : ∀ u, u = (if cap2 = 1 then Value.slice (some ⟨bq, oq, none⟩) r.length 0 else .slice (some ⟨bq, oq + 6, none⟩) r.length (cap2 - 1)) →
              ∃ v0 v1 o0 o1, PM b0 (wq.setCell ⟨bw, 0, none⟩ u) bs bw b0 b1 { q with wa := r } v0 v1 o0 o1 := fun u hu => by
            have HQ := HM.out.fr FQ
            have FS : Fr [bw] wq (wq.setCell ⟨bw, 0, none⟩ u) := (Fr.refl _ _).setCell (by simp) _
            have hne := HQ.ne
            have RR : ∃ o', Row 6 wq u r.length (evCells r) o' ∧ (o' = some bq ∨ o' = none) := by
              by_cases hc1 : cap2 = 1
              · rw [if_pos hc1] at hu
                have hr0 : r = [] := by cases r with | nil => rfl | cons _ _ => simp at h3; omega
                subst hr0
                rw [hu]
                exact ⟨none, Row.nil 6 wq _, .inr rfl⟩
              · rw [if_neg hc1] at hu
                refine ⟨some bq, .inr ⟨bq, oq + 6, cap2 - 1, rfl, hu, by simp at h3; omega, Nat.lt_of_lt_of_le h4 FQ.size, ?_, fun j hj => ?_, fun j hj => ?_⟩, .inl rfl⟩
                · have : (evCells (ev :: r)).length = 6 + (evCells r).length := by show (ev.cells ++ evCells r).length = _; rw [List.length_append]; rfl
                  simp only [List.length_cons] at h5; omega
                · rw [FQ.cell (p := ⟨bq, oq + 6 + j, none⟩) h4 (by simp), FQ.frozen (p := ⟨bq, oq + 6 + j, none⟩) h4 (by simp), Nat.add_assoc]; exact h6 _ (by omega)
                · rw [FQ.cell (p := ⟨bq, oq + 6 + j, none⟩) h4 (by simp), Nat.add_assoc, h7 _ (by simp only [List.length_cons]; omega)]
                  show (ev.cells ++ evCells r)[6 + j]? = _
                  rw [List.getElem?_append_right (show 6 ≤ 6 + j by omega)]
                  congr 1
                  show 6 + j - 6 = j
                  omega
            obtain ⟨o', hR, ho'⟩ := RR
            have hnq := HQ.new0 bq rfl
            have hsub : ∀ x, o' = some x → x = bq := fun x hx => by
              rcases ho' with h | h
              · rw [h] at hx; exact (Option.some.inj hx).symm
              · rw [h] at hx; cases hx
            exact ⟨_, _, o', _, { sides := FS.pt HQ.sides (by simp; omega), way := HQ.way.set' rfl, row0 := hR.fr FS (fun x hx => by have := hsub x hx; simp; omega), row1 := HQ.row1.fr FS (fun x hx => by have := HQ.new1 x hx; simp; omega), apart := fun x hx => by rw [hsub x hx]; exact HQ.apart bq rfl, new0 := fun x hx => by rw [hsub x hx]; exact hnq, new1 := HQ.new1, sa := FS.pt HQ.sa (by simp; omega), sb := FS.pt HQ.sb (by simp; omega), ge := HQ.ge, ne := HQ.ne, inva := HQ.inva, invb := HQ.invb }⟩
          have FB : ∀ u, Below b0 wr (wq.setCell ⟨bw, 0, none⟩ u) := fun u => (((FQ.mono (by simp) : Fr [bw] wr wq)).setCell (p := ⟨bw, 0, none⟩) (by simp) u).below (by have := HM.out.sa.lt; omega) (by have := HM.out.ge; simp; omega)
          replace LEFT := Lib.hid LEFT; replace FB := Lib.hid FB
          have lens2 : r.length < 1000000 := by have := lens.out; rw [hwq] at this; simp at this; omega
          replace lens2 := Lib.hid lens2
          have cw : ∀ u j, (wq.setCell ⟨bw, 0, none⟩ u).cell? ⟨bz, j, none⟩ = ev.cells[j]? := fun u j => (PQ.ne (p := ⟨bw, 0, none⟩) hne1 u).cell j
          have Tr2 : ∀ u, Tab (wq.setCell ⟨bw, 0, none⟩ u) := fun u => by
            have T1 := Tr.out.fr FQ (by simp) Tr.out.lt
            have hd := T1.ne (HM.out.fr FQ).way (by simp)
            exact T1.fr ((Fr.refl [bw] wq).setCell (p := ⟨bw, 0, none⟩) (by simp) u) (by simpa using hd.symm) T1.lt
          replace Tr2 := Lib.hid Tr2
          obtain ⟨xw, xk, xa, xb, xc, xd⟩ := ev
          have c0 := cq 0 (by omega); have c1 := cq 1 (by omega); have c2 := cq 2 (by omega); have c3 := cq 3 (by omega); have c4 := cq 4 (by omega); have c5 := cq 5 (by omega)
          simp only [Ev.cells, Nat.add_zero, List.getElem?_cons_zero, List.getElem?_cons_succ] at c0 c1 c2 c3 c4 c5 hwqe cz cw
          simp only [List.length_cons] at h3 h7 hwc hwq2 ⊢
          have h0 : (0 : Int) < ((r.length + 1 : Nat) : Int) := by omega
          have h02 : (1 : Int) < 2 := by omega
          clear cq hwq h5
          replace h6 := Lib.hid h6; replace h7 := Lib.hid h7; replace FQ := Lib.hid FQ; replace PQ := Lib.hid PQ; replace PW := Lib.hid PW
          by_cases hc1 : cap2 = 1
          · have LEFT1 := LEFT.out _ (if_pos hc1).symm
            subst hc1
            obtain rfl : r = [] := by cases r with | nil => rfl | cons _ _ => simp at h3
            simp only [List.length_nil] at LEFT1
            replace LEFT1 := Lib.hid LEFT1
            rcases E4 with ⟨E4, E8⟩ | ⟨E4, E8⟩
            all_goals
              go_wp2_with fail
              obtain ⟨_, _, _, _, HL⟩ := LEFT1.out
              refine (meet_0 b0 ⟨xw, xk, xa, xb, xc, xd⟩ _ bs bw b0 b1 _ _ _ _ _ HL (Tr2.out _) lens.out.2).mono ?_
              rintro e w5 ⟨rfl, ⟨v', o', hM'⟩, hB'⟩
              replace hM' := Lib.hid hM'
              replace hB' := Lib.hid hB'
              go_wp2
              go_roundw
              case rel => exact ⟨i + 1, by omega, by go_num, by rw [hst.out, deed_4, hp.out]; exact ⟨_, _, _, _, hM'.out⟩, hB.out.trans ((FB.out _).trans hB'.out)⟩
              case measure => simp [intOf]; omega
          · have LEFT1 := LEFT.out _ (if_neg hc1).symm
            replace LEFT1 := Lib.hid LEFT1
            have hc2 : (cap2 - 1 = 0) = False := by simp only [eq_iff_iff, iff_false]; omega
            have hc3 : ¬ cap2 ≤ 1 := by omega
            rcases E4 with ⟨E4, E8⟩ | ⟨E4, E8⟩
            all_goals
              go_wp2_with fail
              obtain ⟨_, _, _, _, HL⟩ := LEFT1.out
              refine (meet_0 b0 ⟨xw, xk, xa, xb, xc, xd⟩ _ bs bw b0 b1 _ _ _ _ _ HL (Tr2.out _) lens.out.2).mono ?_
              rintro e w5 ⟨rfl, ⟨v', o', hM'⟩, hB'⟩
              replace hM' := Lib.hid hM'
              replace hB' := Lib.hid hB'
              go_wp2
              go_roundw
              case rel => exact ⟨i + 1, by omega, by go_num, by rw [hst.out, deed_4, hp.out]; exact ⟨_, _, _, _, hM'.out⟩, hB.out.trans ((FB.out _).trans hB'.out)⟩
              case measure => simp [intOf]; omega
      · cases hwq : q.wb with
        | nil =>
          have hp : popP q 1 = q := by simp [popP, hwq]
          have hrow := HM.out.row1
          obtain ⟨oz, cz, hvz⟩ := hrow.len
          rw [hwq] at hvz
          simp only [List.length_nil] at hvz
          subst hvz
          have hwc := HM.out.way.cell
          have h02 : (1 : Int) < 2 := by omega
          clear hrow
          rcases E4 with ⟨E4, E8⟩ | ⟨E4, E8⟩
          all_goals
            go_wp2
            go_roundw
            case rel => exact ⟨i + 1, by omega, by go_num, by rw [hst.out, deed_5, hp]; exact ⟨_, _, _, _, HM.out⟩, hB.out⟩
            case measure => simp [intOf]; omega
        | cons ev r =>
          have hp : popP q 1 = meetP { q with wb := r } 1 ev := by simp [popP, hwq]
          replace hp := Lib.hid hp
          have hrow := HM.out.row1
          rw [hwq] at hrow
          rcases hrow with ⟨_, h, _⟩ | ⟨bq, oq, cap2, rfl, rfl, h3, h4, h5, h6, h7⟩
          · simp at h
          obtain ⟨wq, hwqe⟩ : ∃ x, wr.alloc (.cells ev.cells.toArray TEv) = x := ⟨_, rfl⟩
          have PQ := Pt.newA wr TEv ev.cells.toArray
          rw [hwqe] at PQ
          have FQ : Fr [] wr wq := by rw [← hwqe]; exact (Fr.refl [] wr).alloc _
          obtain ⟨bz, hbz⟩ : ∃ x, wr.heap.size = x := ⟨_, rfl⟩
          rw [hbz] at PQ
          have cq : ∀ j, j < 6 → wr.cell? ⟨bq, oq + j, none⟩ = ev.cells[j]? := fun j hj => by
            rw [h7 j (by simp; omega)]
            show (ev.cells ++ evCells r)[j]? = _
            rw [List.getElem?_append_left (show j < 6 from hj)]
          have hwc := HM.out.way.cell
          have PW := FQ.pt HM.out.way (by simp)
          have hwq2 := PW.cell
          have hwz2 := PW.free
          have cz := PQ.cell
          have hbwl : bw < bz := by have := HM.out.way.lt; omega
          have hne1 : bz ≠ bw := by omega
          have hne2 : bw ≠ bz := by omega
          -- the row that is left, and the memory behind the store
          have LEFT : ∀ u, u = (if cap2 = 1 then Value.slice (some ⟨bq, oq, none⟩) r.length 0 else .slice (some ⟨bq, oq + 6, none⟩) r.length (cap2 - 1)) →
              ∃ v0 v1 o0 o1, PM b0 (wq.setCell ⟨bw, 1, none⟩ u) bs bw b0 b1 { q with wb := r } v0 v1 o0 o1 := fun u hu => by
            have HQ := HM.out.fr FQ
            have FS : Fr [bw] wq (wq.setCell ⟨bw, 1, none⟩ u) := (Fr.refl _ _).setCell (by simp) _
            have hne := HQ.ne
            have RR : ∃ o', Row 6 wq u r.length (evCells r) o' ∧ (o' = some bq ∨ o' = none) := by
              by_cases hc1 : cap2 = 1
              · rw [if_pos hc1] at hu
                have hr0 : r = [] := by cases r with | nil => rfl | cons _ _ => simp at h3; omega
                subst hr0
                rw [hu]
                exact ⟨none, Row.nil 6 wq _, .inr rfl⟩
              · rw [if_neg hc1] at hu
                refine ⟨some bq, .inr ⟨bq, oq + 6, cap2 - 1, rfl, hu, by simp at h3; omega, Nat.lt_of_lt_of_le h4 FQ.size, ?_, fun j hj => ?_, fun j hj => ?_⟩, .inl rfl⟩
                · have : (evCells (ev :: r)).length = 6 + (evCells r).length := by show (ev.cells ++ evCells r).length = _; rw [List.length_append]; rfl
                  simp only [List.length_cons] at h5; omega
                · rw [FQ.cell (p := ⟨bq, oq + 6 + j, none⟩) h4 (by simp), FQ.frozen (p := ⟨bq, oq + 6 + j, none⟩) h4 (by simp), Nat.add_assoc]; exact h6 _ (by omega)
                · rw [FQ.cell (p := ⟨bq, oq + 6 + j, none⟩) h4 (by simp), Nat.add_assoc, h7 _ (by simp only [List.length_cons]; omega)]
                  show (ev.cells ++ evCells r)[6 + j]? = _
                  rw [List.getElem?_append_right (show 6 ≤ 6 + j by omega)]
                  congr 1
                  show 6 + j - 6 = j
                  omega
            obtain ⟨o', hR, ho'⟩ := RR
            have hnq := HQ.new1 bq rfl
            have hsub : ∀ x, o' = some x → x = bq := fun x hx => by
              rcases ho' with h | h
              · rw [h] at hx; exact (Option.some.inj hx).symm
              · rw [h] at hx; cases hx
            exact ⟨_, _, _, o', { sides := FS.pt HQ.sides (by simp; omega), way := HQ.way.set' rfl, row1 := hR.fr FS (fun x hx => by have := hsub x hx; simp; omega), row0 := HQ.row0.fr FS (fun x hx => by have := HQ.new0 x hx; simp; omega), apart := fun x hx e => by have := hsub x e; subst this; exact HQ.apart _ hx rfl, new1 := fun x hx => by rw [hsub x hx]; exact hnq, new0 := HQ.new0, sa := FS.pt HQ.sa (by simp; omega), sb := FS.pt HQ.sb (by simp; omega), ge := HQ.ge, ne := HQ.ne, inva := HQ.inva, invb := HQ.invb }⟩
          have FB : ∀ u, Below b0 wr (wq.setCell ⟨bw, 1, none⟩ u) := fun u => (((FQ.mono (by simp) : Fr [bw] wr wq)).setCell (p := ⟨bw, 1, none⟩) (by simp) u).below (by have := HM.out.sa.lt; omega) (by have := HM.out.ge; simp; omega)
          replace LEFT := Lib.hid LEFT; replace FB := Lib.hid FB
          have lens2 : r.length < 1000000 := by have := lens.out; rw [hwq] at this; simp at this; omega
          replace lens2 := Lib.hid lens2
          have cw : ∀ u j, (wq.setCell ⟨bw, 1, none⟩ u).cell? ⟨bz, j, none⟩ = ev.cells[j]? := fun u j => (PQ.ne (p := ⟨bw, 1, none⟩) hne1 u).cell j
          have Tr2 : ∀ u, Tab (wq.setCell ⟨bw, 1, none⟩ u) := fun u => by
            have T1 := Tr.out.fr FQ (by simp) Tr.out.lt
            have hd := T1.ne (HM.out.fr FQ).way (by simp)
            exact T1.fr ((Fr.refl [bw] wq).setCell (p := ⟨bw, 1, none⟩) (by simp) u) (by simpa using hd.symm) T1.lt
          replace Tr2 := Lib.hid Tr2
          obtain ⟨xw, xk, xa, xb, xc, xd⟩ := ev
          have c0 := cq 0 (by omega); have c1 := cq 1 (by omega); have c2 := cq 2 (by omega); have c3 := cq 3 (by omega); have c4 := cq 4 (by omega); have c5 := cq 5 (by omega)
          simp only [Ev.cells, Nat.add_zero, List.getElem?_cons_zero, List.getElem?_cons_succ] at c0 c1 c2 c3 c4 c5 hwqe cz cw
          simp only [List.length_cons] at h3 h7 hwc hwq2 ⊢
          have h0 : (0 : Int) < ((r.length + 1 : Nat) : Int) := by omega
          have h02 : (1 : Int) < 2 := by omega
          clear cq hwq h5
          replace h6 := Lib.hid h6; replace h7 := Lib.hid h7; replace FQ := Lib.hid FQ; replace PQ := Lib.hid PQ; replace PW := Lib.hid PW
          by_cases hc1 : cap2 = 1
          · have LEFT1 := LEFT.out _ (if_pos hc1).symm
            subst hc1
            obtain rfl : r = [] := by cases r with | nil => rfl | cons _ _ => simp at h3
            simp only [List.length_nil] at LEFT1
            replace LEFT1 := Lib.hid LEFT1
            rcases E4 with ⟨E4, E8⟩ | ⟨E4, E8⟩
            all_goals
              go_wp2_with fail
              obtain ⟨_, _, _, _, HL⟩ := LEFT1.out
              refine (meet_1 b0 ⟨xw, xk, xa, xb, xc, xd⟩ _ bs bw b0 b1 _ _ _ _ _ HL (Tr2.out _) lens.out.1).mono ?_
              rintro e w5 ⟨rfl, ⟨v', o', hM'⟩, hB'⟩
              replace hM' := Lib.hid hM'
              replace hB' := Lib.hid hB'
              go_wp2
              go_roundw
              case rel => exact ⟨i + 1, by omega, by go_num, by rw [hst.out, deed_5, hp.out]; exact ⟨_, _, _, _, hM'.out⟩, hB.out.trans ((FB.out _).trans hB'.out)⟩
              case measure => simp [intOf]; omega
          · have LEFT1 := LEFT.out _ (if_neg hc1).symm
            replace LEFT1 := Lib.hid LEFT1
            have hc2 : (cap2 - 1 = 0) = False := by simp only [eq_iff_iff, iff_false]; omega
            have hc3 : ¬ cap2 ≤ 1 := by omega
            rcases E4 with ⟨E4, E8⟩ | ⟨E4, E8⟩
            all_goals
              go_wp2_with fail
              obtain ⟨_, _, _, _, HL⟩ := LEFT1.out
              refine (meet_1 b0 ⟨xw, xk, xa, xb, xc, xd⟩ _ bs bw b0 b1 _ _ _ _ _ HL (Tr2.out _) lens.out.1).mono ?_
              rintro e w5 ⟨rfl, ⟨v', o', hM'⟩, hB'⟩
              replace hM' := Lib.hid hM'
              replace hB' := Lib.hid hB'
              go_wp2
              go_roundw
              case rel => exact ⟨i + 1, by omega, by go_num, by rw [hst.out, deed_5, hp.out]; exact ⟨_, _, _, _, hM'.out⟩, hB.out.trans ((FB.out _).trans hB'.out)⟩
              case measure => simp [intOf]; omega
    · obtain ⟨v0, v1, o0, o1, HM⟩ := hM
      have hi : i = ds.length := by omega
      subst hi
      rw [List.take_length] at HM
      obtain ⟨q, hq⟩ : ∃ q, runP (startP m t) ds = q := ⟨_, rfl⟩
      obtain ⟨hla, hlb⟩ := runP_len m t ds
      rw [hq] at hla hlb
      rw [hq]
      rw [hq] at HM
      clear hPP
      have hcw := HM.way.cell
      obtain ⟨z0, d0, rfl, hl0⟩ := HM.row0.evs
      obtain ⟨z1, d1, rfl, hl1⟩ := HM.row1.evs
      replace hl0 := Lib.hid hl0; replace hl1 := Lib.hid hl1; replace HM := Lib.hid HM; replace hB := Lib.hid hB
      have h02 : (0 : Int) < 2 := by omega
      have h12 : (1 : Int) < 2 := by omega
      clear hl hrange hw3 hw4 hw0 hlt hi0 hlenI
      obtain ⟨wq, hwq⟩ : ∃ x, x = wr := ⟨_, rfl⟩
      subst hwq
      go_wp2_with fail
      go_loopw [114, 7] (fun v s wr' => ∃ i : Nat, i ≤ 2 ∧ v = .int .i64 i ∧ s = .int .i64 (onw q i) ∧ Fr [] wq wr') (fun v _ _ => (2 - intOf v).toNat)
      case atStart => exact ⟨0, by omega, rfl, rfl, Fr.refl _ _⟩
      case round =>
        obtain ⟨i, hi2, rfl, rfl, hf⟩ := hrel
        rcases (by omega : i = 0 ∨ i = 1 ∨ i = 2) with rfl | rfl | rfl
        · have hon : onw q 0 = 0 := rfl
          try rw [hon]
          go_wp2_with fail
          rw [way_0]
          go_wp2_with fail
          go_loopw [119, 7] (fun v s wr2 => ∃ j : Nat, j ≤ q.wa.length ∧ v = .int .i64 j ∧ s = .int .i64 (orGives 0 (q.wa.take j)) ∧ Fr [] wq wr2) (fun v _ _ => (q.wa.length - intOf v).toNat)
          case atStart => exact ⟨0, by omega, rfl, rfl, hf⟩
          case round =>
            obtain ⟨j, hj0, rfl, rfl, hg⟩ := hrel
            by_cases hlj : (j : Int) < q.wa.length
            · have hjl : j < q.wa.length := by omega
              obtain ⟨B, off, rfl, hBl, hc⟩ := hl0.out j hjl
              have hsn := orGives_snoc 0 q.wa j hjl
              obtain ⟨ev, hev⟩ : ∃ ev, q.wa[j] = ev := ⟨_, rfl⟩
              rw [hev] at hc hsn
              obtain ⟨way, kind, ea, eb, ec, data⟩ := ev
              have hc' : ∀ j', j' < 6 → wr.cell? ⟨B, off + j * 6 + j', none⟩ = (Ev.cells ⟨way, kind, ea, eb, ec, data⟩)[j']? := fun j' hj' => by rw [hg.cell (p := ⟨B, off + j * 6 + j', none⟩) hBl (by simp)]; exact hc j' hj'
              have c0 := hc' 0 (by omega); have c1 := hc' 1 (by omega); have c2 := hc' 2 (by omega); have c3 := hc' 3 (by omega); have c4 := hc' 4 (by omega); have c5 := hc' 5 (by omega)
              simp only [Ev.cells, Nat.add_zero, List.getElem?_cons_zero, List.getElem?_cons_succ] at c0 c1 c2 c3 c4 c5
              clear hc hc' hev
              replace hg := Lib.hid hg
              by_cases hk2 : kind = 2
              all_goals
                first | rw [if_pos hk2] at hsn | rw [if_neg hk2] at hsn
                go_wp2
                go_roundw
                case rel => exact ⟨j + 1, by omega, by go_num, by rw [hsn], hg.out.alloc _⟩
                case measure => simp [intOf]; omega
            · have hjl : j = q.wa.length := by omega
              subst hjl
              rw [List.take_length]
              go_wp2
              go_roundw
              case rel => exact ⟨0 + 1, by omega, rfl, rfl, hg⟩
              case measure => simp [intOf]
        · have hon : onw q 1 = (orGives 0 q.wa) := rfl
          try rw [hon]
          go_wp2_with fail
          rw [way_1]
          go_wp2_with fail
          go_loopw [119, 7] (fun v s wr2 => ∃ j : Nat, j ≤ q.wb.length ∧ v = .int .i64 j ∧ s = .int .i64 (orGives (orGives 0 q.wa) (q.wb.take j)) ∧ Fr [] wq wr2) (fun v _ _ => (q.wb.length - intOf v).toNat)
          case atStart => exact ⟨0, by omega, rfl, rfl, hf⟩
          case round =>
            obtain ⟨j, hj0, rfl, rfl, hg⟩ := hrel
            by_cases hlj : (j : Int) < q.wb.length
            · have hjl : j < q.wb.length := by omega
              obtain ⟨B, off, rfl, hBl, hc⟩ := hl1.out j hjl
              have hsn := orGives_snoc (orGives 0 q.wa) q.wb j hjl
              obtain ⟨ev, hev⟩ : ∃ ev, q.wb[j] = ev := ⟨_, rfl⟩
              rw [hev] at hc hsn
              obtain ⟨way, kind, ea, eb, ec, data⟩ := ev
              have hc' : ∀ j', j' < 6 → wr.cell? ⟨B, off + j * 6 + j', none⟩ = (Ev.cells ⟨way, kind, ea, eb, ec, data⟩)[j']? := fun j' hj' => by rw [hg.cell (p := ⟨B, off + j * 6 + j', none⟩) hBl (by simp)]; exact hc j' hj'
              have c0 := hc' 0 (by omega); have c1 := hc' 1 (by omega); have c2 := hc' 2 (by omega); have c3 := hc' 3 (by omega); have c4 := hc' 4 (by omega); have c5 := hc' 5 (by omega)
              simp only [Ev.cells, Nat.add_zero, List.getElem?_cons_zero, List.getElem?_cons_succ] at c0 c1 c2 c3 c4 c5
              clear hc hc' hev
              replace hg := Lib.hid hg
              by_cases hk2 : kind = 2
              all_goals
                first | rw [if_pos hk2] at hsn | rw [if_neg hk2] at hsn
                go_wp2
                go_roundw
                case rel => exact ⟨j + 1, by omega, by go_num, by rw [hsn], hg.out.alloc _⟩
                case measure => simp [intOf]; omega
            · have hjl : j = q.wb.length := by omega
              subst hjl
              rw [List.take_length]
              go_wp2
              go_roundw
              case rel => exact ⟨1 + 1, by omega, rfl, rfl, hg⟩
              case measure => simp [intOf]
        · have hcp := (hf.pt HM.out.sa (by simp)).cell
          have hcq := (hf.pt HM.out.sb (by simp)).cell
          simp only [TS.cells] at hcp hcq
          have hPr : Pt wr br 53 [.int .i64 0, .int .i64 0] := by
            exact (hf.block br (by have := HM.out.sa.lt; omega) (by simp)).trans ((hB.out.block br (by omega)).trans P0.out)
          have hpc := hPr.cell
          have hpf := hPr.free
          go_wp2_with fail
          go_region
          go_wp2_with fail
          rw [hq]
          refine bodyPost_ret (v := .tuple #[.agg #[.int .i64 q.a.mine, .int .i64 q.b.mine], .int .i64 (onw q 2), .int .i64 0]) (by simp [results, Tryd.results23, go_sem, hpc]) rfl ⟨rfl, ?_⟩
          have hwl : wq.heap.size ≤ wr.heap.size := hf.size
          have hb0l := HM.out.sa.lt
          have F1 : Fr [br] wq (((wr.setCell ⟨br, 0, none⟩ (.int .i64 q.a.mine)).setCell ⟨br, 1, none⟩ (.int .i64 q.b.mine)).drew) := (((hf.mono (by simp)).setCell (by simp) _).setCell (by simp) _).drew
          rw [hbr]
          exact ((f0.out.below (Nat.le_of_eq hbr.symm) (by simp)).trans ((hB.out.mono (by omega)).trans (F1.below (by omega) (by simp))))
end Go.Proofs.YtkkmjjddalpocaaDoor
