import Derived.Test.YtkfkkglodjehpaaNeeds
import Derived.Lib.Hide
namespace Go.Proofs.Ytkfkkglodjehpaa.Ag
open Go.RowKit Go.Shelf
attribute [local go_sem] Oper.semAt_some
/-! ### session.agree -/
def needStep (n : Int) (x : Int × Int) : Int := if bits .and .i64 n x.2 == x.2 then n else bits .andNot .i64 n x.1
def needPass (n : Int) : Int := needsL.foldl needStep n
def agree0 (n : Int) : Int := if bits .and .i64 n 2 == 0 then n else bits .andNot .i64 n 1
def agreeP (n : Int) : Int := if bits .and .i64 (needPass (agree0 n)) 3 == 0 then 0 else needPass (agree0 n)
theorem all2048 {p : Int → Bool} (h : (List.range 2048).all (fun k => p (k : Int)) = true) (n : Int) (h0 : 0 ≤ n) (h1 : n ≤ 2047) : p n = true := by
  obtain ⟨k, rfl⟩ := Int.eq_ofNat_of_zero_le h0
  exact List.all_eq_true.mp h k (by simp; omega)
theorem agree0_range (n : Int) (h0 : 0 ≤ n) (h1 : n ≤ 2047) : 0 ≤ agree0 n ∧ agree0 n ≤ 2047 := by
  have := all2048 (p := fun n => decide (0 ≤ agree0 n) && decide (agree0 n ≤ 2047)) (by decide +kernel) n h0 h1
  simpa [and_assoc] using this
theorem needPass_idem (n : Int) (h0 : 0 ≤ n) (h1 : n ≤ 2047) : needPass (needPass n) = needPass n ∧ 0 ≤ needPass n ∧ needPass n ≤ 2047 := by
  have := all2048 (p := fun n => needPass (needPass n) == needPass n && decide (0 ≤ needPass n) && decide (needPass n ≤ 2047)) (by decide +kernel) n h0 h1
  simpa [and_assoc] using this

def mk0 (D : Nat) : Deferred := { target := .collected D, args := #[] }
structure Marks (B : Nat) (Ds : List Nat) (W : World) : Prop where
  nodup : Ds.Nodup
  ge : ∀ D ∈ Ds, B < D
  at_ : ∀ D ∈ Ds, W.heap[D]? = some (.deferred (some []))
theorem Marks.lt {B : Nat} {Ds : List Nat} {W : World} (h : Marks B Ds W) : ∀ D ∈ Ds, D < W.heap.size := fun D hD => (Array.getElem?_eq_some_iff.1 (h.at_ D hD)).1
theorem Marks.ownFrom {β : Type} (B : Nat) (Ds : List Nat) (C : Nat) (hC : ∀ D ∈ Ds, D < C) : OwnFrom C (fun (_ : β) W => Marks B Ds W) := fun s X Y row hs hg hr =>
  ⟨hs.nodup, hs.ge, fun D hD => (hg.block D (hs.lt D hD) (fun e => by have := (hr D e.symm).1; have := hC D hD; omega)).trans (hs.at_ D hD)⟩
theorem Marks.setCell {B : Nat} {Ds : List Nat} {W : World} (h : Marks B Ds W) (a : Addr) (v : Value) : Marks B Ds (W.setCell a v) := ⟨h.nodup, h.ge, fun D hD => (KeepsOthers.setCell W a v).same D _ (h.at_ D hD) rfl⟩
theorem Marks.alloc {B : Nat} {Ds : List Nat} {W : World} (h : Marks B Ds W) (o : Obj) : Marks B Ds (W.alloc o) := ⟨h.nodup, h.ge, fun D hD => (KeepsOthers.alloc W o).same D _ (h.at_ D hD) rfl⟩
theorem Marks.nil (B : Nat) (W : World) : Marks B [] W := ⟨List.nodup_nil, by simp, by simp⟩
theorem Marks.cons {B : Nat} {Ds : List Nat} {W : World} (h : Marks B Ds W) {D : Nat} (hD : W.heap[D]? = some (.deferred (some []))) (hB : B < D) (hn : D ∉ Ds) : Marks B (D :: Ds) W :=
  ⟨List.nodup_cons.2 ⟨hn, h.nodup⟩, by simpa [hB] using h.ge, by simpa [hD] using h.at_⟩
/-- The way out of a function with marks of loops over functions. -/
theorem leaves_marks {F : Fence} {n : Nat} {P : Program} {fn : Func} {tmps : Array Value} {R : Ending → World → Prop} {B : Nat} (Ds : List Nat) : ∀ (W : World), Marks B Ds W →
    (∀ W', (∀ k, k ≤ B → W'.heap[k]? = W.heap[k]?) → Below B W W' → LeavesIn F n P fn tmps R [] .returning W') → LeavesInM F n P fn tmps R (Ds.map mk0) .returning W := by
  induction Ds with
  | nil => exact fun W _ h => h W (fun _ _ => rfl) (Below.refl _ _)
  | cons D Ds ih =>
    intro W hM h
    have hD := hM.at_ D (by simp)
    have hge := hM.ge D (by simp)
    refine ⟨by simp, .inl ⟨D, _, rfl, run_takeDeferred hD, ?_⟩⟩
    refine ih _ ⟨(List.nodup_cons.1 hM.nodup).2, fun D' h' => hM.ge D' (by simp [h']), fun D' h' => ?_⟩ fun W' hk hb => ?_
    · exact (World.putObj_heap_other (fun e => (List.nodup_cons.1 hM.nodup).1 (by rw [← e]; exact h'))).trans (hM.at_ D' (by simp [h']))
    · refine h W' (fun k hk' => (hk k hk').trans (World.putObj_heap_other (by omega))) ?_
      have h1 : Below B W (W.putObj D (.deferred none)) := ⟨rfl, rfl, rfl, by simp [World.putObj], fun k hk' => World.putObj_heap_other (by omega)⟩
      exact h1.trans hb
def AgSt (g was m : Int) : Prop := (was = -1 ∧ m = g) ∨ (m = needPass g ∧ (was = g ∨ was = needPass g))
def agRank (g was : Int) : Nat := if was = -1 then 2 else if was = needPass g then 0 else 1
theorem foldl_snoc_need (g : Int) (pre : List (Int × Int)) (x : Int × Int) : (pre ++ [x]).foldl needStep g = needStep (pre.foldl needStep g) x := by simp
theorem agSt_step {g was m : Int} (hp : needPass (needPass g) = needPass g) (h : AgSt g was m) : AgSt g m (needPass m) := by
  rcases h with ⟨rfl, rfl⟩ | ⟨rfl, h⟩
  · exact .inr ⟨rfl, .inl rfl⟩
  · exact .inr ⟨hp, .inr rfl⟩
theorem agRank_step {g was m : Int} (hP : 0 ≤ needPass g) (hn : was ≠ m) (h : AgSt g was m) : agRank g m < agRank g was := by
  unfold agRank
  rcases h with ⟨h1, h2⟩ | ⟨h1, h2 | h2⟩ <;> (repeat' split) <;> omega
theorem agSt_end {g was : Int} (hg0 : 0 ≤ g) (h : AgSt g was was) : was = needPass g := by
  rcases h with ⟨h1, h2⟩ | ⟨h, _⟩
  · omega
  · exact h
set_option maxRecDepth 100000 in
set_option maxHeartbeats 2000000 in
theorem agree_any (a b : Int) (w : World) (h1 : 0 ≤ bits .and .i64 a b) (h2 : bits .and .i64 a b ≤ 2047) :
    Calls Try.prog 25 #[.int .i64 a, .int .i64 b] w fun e w' => e = .returned (.int .i64 (agreeP (bits .and .i64 a b))) ∧ Below w.heap.size w w' := by
  obtain ⟨n0, hn0⟩ : ∃ n0, bits .and .i64 a b = n0 := ⟨_, rfl⟩
  rw [hn0] at h1 h2 ⊢
  refine (callsIn_wide (n := 5)).1 ?_
  refine callsIn_of_wp_marks Try.func25 rfl trivial ?_ rfl
  simp only [Try.ntmps25, List.size_toArray, List.length_cons, List.length_nil, Nat.reduceAdd, Nat.reduceSub, Array.replicate_succ, Array.replicate_zero, List.push_toArray, List.append_toArray, List.nil_append, List.cons_append]
  obtain ⟨g, hg⟩ : ∃ g, agree0 n0 = g := ⟨_, rfl⟩
  obtain ⟨hg0, hg1⟩ := hg ▸ agree0_range n0 h1 h2
  obtain ⟨hp0, hp1, hp2⟩ := needPass_idem g hg0 hg1
  have Hg := Lib.hid hg
  have Hp0 := Lib.hid hp0
  clear hg hp0
  by_cases hd : (bits BinOp.and IntKind.i64 n0 2 == 0) = true
  · obtain rfl : n0 = g := by rw [← Hg.out]; unfold agree0; rw [if_pos hd]
    gi_wp2
    refine wpIn_loop (fun act W => ∃ (was m : Int) (Ds : List Nat) (u7 u8 u9 u10 u11 u12 u13 u14 u15 u16 u17 u18 u19 u20 u21 u22 u23 u24 u25 u26 u27 u28 u29 u30 u31 u32 u33 u34 u35 : Value), act = { tmps := #[.int .i64 a, .int .i64 b, undef, undef, .int .i64 0, .pointer (some ⟨w.heap.size, 0, none⟩), .int .i64 was, u7, u8, u9, u10, u11, u12, u13, u14, u15, u16, u17, u18, u19, u20, u21, u22, u23, u24, u25, u26, u27, u28, u29, u30, u31, u32, u33, u34, u35], defers := Ds.map mk0 } ∧ Boxed W w.heap.size 3 (.int .i64 m) ∧ Below w.heap.size w W ∧ Marks w.heap.size Ds W ∧ AgSt n0 was m) (fun act _ => agRank n0 (intOf (act.tmps.getD 6 undef))) ?start ?round
    case start => exact ⟨-1, n0, [], _, _, _, _, _, _, _, _, _, _, _, _, _, _, _, _, _, _, _, _, _, _, _, _, _, _, _, _, _, rfl, Boxed.new _ _ _, (Below.refl _ _).alloc (Nat.le_refl _) _, Marks.nil _ _, .inl ⟨rfl, rfl⟩⟩
    case round =>
      clear hn0 hd
      rintro act W ⟨was, m, Ds, u7, u8, u9, u10, u11, u12, u13, u14, u15, u16, u17, u18, u19, u20, u21, u22, u23, u24, u25, u26, u27, u28, u29, u30, u31, u32, u33, u34, u35, rfl, hbx, hbl, hmk, hst⟩
      have Hst := Lib.hid hst
      clear hst
      have c1 := hbx.cell
      have f1 := hbx.frozen
      by_cases hwm : (was != m) = true
      · gi_wp2
        refine wpIn_rangeFunc_ownH rfl (by omega) (gf := 30) (lb := #[]) rfl trivial (enters_of Try.func30 (by kernel_rfl) rfl) (needs_stops Fence.wide (5 - 1) trivial rfl (by omega) W) walksK_t walksK_b (Below.refl _ _) (fun _ => rfl)
          (fun pre W' => (Boxed W' w.heap.size 3 (.int .i64 (pre.foldl needStep m)) ∧ Below w.heap.size w W') ∧ Marks w.heap.size Ds W')
          (fun c pre W => False)
          (OwnFrom.and (OwnFrom.and (Own.from (boxed_own (β := List (Int × Int)) _ _ (fun pre => .int .i64 (pre.foldl needStep m))) _) (ownFrom_below (Nat.le_refl _) hbl.size)) (Marks.ownFrom _ _ _ hmk.lt))
          (fun c => fun _ _ _ _ h _ _ => h)
          ⟨⟨hbx, hbl⟩, hmk⟩
          (fun x a' W' => ∃ Bx, W'.heap[Bx]? = some (.cells #[.int .i64 x.1, .int .i64 x.2] 73 (0, 0)) ∧ a' = { tmps := #[.int .i64 a, .int .i64 b, undef, undef, .int .i64 0, .pointer (some ⟨w.heap.size, 0, none⟩), .int .i64 m, .pointer (some ⟨Bx, 0, none⟩), u8, u9, u10, u11, u12, u13, u14, u15, .int .i64 was, .int .i64 m, .bool true, .int .i64 m, .agg #[.int .i64 x.1, .int .i64 x.2], u21, u22, u23, u24, u25, u26, u27, u28, u29, u30, u31, u32, u33, u34, u35], defers := [] })
          (fun x a' => Own.from (fun s A B row ⟨Bx, h2, h3⟩ hg hr => ⟨Bx, heap_cells_own (β := Unit) (fun _ => Bx) (fun _ => .cells #[.int .i64 x.1, .int .i64 x.2] 73 (0, 0)) (fun _ => rfl) () A B row h2 hg hr, h3⟩) _)
          ?assign ?body ?done ?stop
        case assign =>
          rintro l pre x W K ⟨⟨b1, hb'⟩, hm'⟩ hK
          dsimp only [encN]
          gi_wp2
          exact hK _ _ ((KeepsOthers.alloc _ _).from _) (KeepsWalks.alloc _ _) ⟨⟨b1.alloc _, hb'.alloc hb'.size _⟩, hm'.alloc _⟩ ⟨W.heap.size, World.alloc_heap_new W _, rfl⟩
        case body =>
          rintro l pre x a' W hl ⟨r, hr⟩ ⟨⟨b1, hb'⟩, hm'⟩ ⟨Bx, bX, rfl⟩ hlt
          obtain ⟨q, hq⟩ : ∃ q, pre.foldl needStep m = q := ⟨_, rfl⟩
          rw [hq] at b1
          have Hq := Lib.hid hq
          clear hq
          have c1 := b1.cell
          have f1 := b1.frozen
          have cX := heap_cells_cell bX
          by_cases hx : (bits BinOp.and IntKind.i64 q x.2 == x.2) = true
          · gi_wp2
            refine ⟨KeepsFrom.refl _ _, KeepsWalks.refl _, ⟨?_, hb'⟩, hm'⟩
            rw [foldl_snoc_need, Hq.out]; unfold needStep; rw [if_pos hx]; exact b1
          · have hx' : (bits BinOp.and IntKind.i64 q x.2 != x.2) = true := by simpa using hx
            gi_wp2
            refine ⟨(KeepsOthers.setCell _ _ _).from _, (KeepsOthers.setCell _ _ _).walks, ⟨?_, hb'.setCell (p := ⟨w.heap.size, 0, none⟩) (Nat.le_refl _) _⟩, hm'.setCell _ _⟩
            rw [foldl_snoc_need, Hq.out]; unfold needStep; rw [if_neg hx]; exact b1.set _
        case done =>
          rintro D ys W' hD rfl ⟨⟨b1, hb'⟩, hm'⟩ hK
          gi_wp2
          refine ⟨⟨m, needPass m, D :: Ds, _, _, _, _, _, _, _, _, _, _, _, _, _, _, _, _, _, _, _, _, _, _, _, _, _, _, _, _, _, rfl, b1, hb', hm'.cons hK (by have := hbx.lt; omega) (fun h => by have := hmk.lt D h; omega), ?_⟩, ?_⟩
          · exact agSt_step Hp0.out Hst.out
          · show agRank n0 m < agRank n0 was
            exact agRank_step hp1 (by simpa using hwm) Hst.out
        case stop =>
          rintro D c pre W hD _ h _
          exact h.elim
      · have hwm' : was = m := by simpa using hwm
        subst hwm'
        by_cases h3 : (bits BinOp.and IntKind.i64 was 3 == 0) = true
        all_goals
          gi_wp2
          refine leaves_marks Ds W hmk (fun W' hk hb => ?_)
          refine ⟨_, results_tmp rfl _ _ _, ?_, hbl.trans hb⟩
          have e := agSt_end hg0 Hst.out
          unfold agreeP
          rw [Hg.out, ← e]
          first | rw [if_pos h3]; rfl | rw [if_neg h3]; rfl
  · have hd' : (bits BinOp.and IntKind.i64 n0 2 != 0) = true := by simpa using hd
    have hg' : bits BinOp.andNot IntKind.i64 n0 1 = g := by rw [← Hg.out]; unfold agree0; rw [if_neg hd]
    gi_wp2
    refine wpIn_loop (fun act W => ∃ (was m : Int) (Ds : List Nat) (u7 u8 u9 u10 u11 u12 u13 u14 u15 u16 u17 u18 u19 u20 u21 u22 u23 u24 u25 u26 u27 u28 u29 u30 u31 u32 u33 u34 u35 : Value), act = { tmps := #[.int .i64 a, .int .i64 b, undef, undef, .int .i64 0, .pointer (some ⟨w.heap.size, 0, none⟩), .int .i64 was, u7, u8, u9, u10, u11, u12, u13, u14, u15, u16, u17, u18, u19, u20, u21, u22, u23, u24, u25, u26, u27, u28, u29, u30, u31, u32, u33, u34, u35], defers := Ds.map mk0 } ∧ Boxed W w.heap.size 3 (.int .i64 m) ∧ Below w.heap.size w W ∧ Marks w.heap.size Ds W ∧ AgSt g was m) (fun act _ => agRank g (intOf (act.tmps.getD 6 undef))) ?start ?round
    case start => exact ⟨-1, g, [], _, _, _, _, _, _, _, _, _, _, _, _, _, _, _, _, _, _, _, _, _, _, _, _, _, _, _, _, _, rfl, Boxed.new _ _ _, (Below.refl _ _).alloc (Nat.le_refl _) _, Marks.nil _ _, .inl ⟨rfl, rfl⟩⟩
    case round =>
      clear hn0 hd hd' hg'
      rintro act W ⟨was, m, Ds, u7, u8, u9, u10, u11, u12, u13, u14, u15, u16, u17, u18, u19, u20, u21, u22, u23, u24, u25, u26, u27, u28, u29, u30, u31, u32, u33, u34, u35, rfl, hbx, hbl, hmk, hst⟩
      have Hst := Lib.hid hst
      clear hst
      have c1 := hbx.cell
      have f1 := hbx.frozen
      by_cases hwm : (was != m) = true
      · gi_wp2
        refine wpIn_rangeFunc_ownH rfl (by omega) (gf := 30) (lb := #[]) rfl trivial (enters_of Try.func30 (by kernel_rfl) rfl) (needs_stops Fence.wide (5 - 1) trivial rfl (by omega) W) walksK_t walksK_b (Below.refl _ _) (fun _ => rfl)
          (fun pre W' => (Boxed W' w.heap.size 3 (.int .i64 (pre.foldl needStep m)) ∧ Below w.heap.size w W') ∧ Marks w.heap.size Ds W')
          (fun c pre W => False)
          (OwnFrom.and (OwnFrom.and (Own.from (boxed_own (β := List (Int × Int)) _ _ (fun pre => .int .i64 (pre.foldl needStep m))) _) (ownFrom_below (Nat.le_refl _) hbl.size)) (Marks.ownFrom _ _ _ hmk.lt))
          (fun c => fun _ _ _ _ h _ _ => h)
          ⟨⟨hbx, hbl⟩, hmk⟩
          (fun x a' W' => ∃ Bx, W'.heap[Bx]? = some (.cells #[.int .i64 x.1, .int .i64 x.2] 73 (0, 0)) ∧ a' = { tmps := #[.int .i64 a, .int .i64 b, undef, undef, .int .i64 0, .pointer (some ⟨w.heap.size, 0, none⟩), .int .i64 m, .pointer (some ⟨Bx, 0, none⟩), u8, u9, u10, u11, u12, u13, u14, u15, .int .i64 was, .int .i64 m, .bool true, .int .i64 m, .agg #[.int .i64 x.1, .int .i64 x.2], u21, u22, u23, u24, u25, u26, u27, u28, u29, u30, u31, u32, u33, u34, u35], defers := [] })
          (fun x a' => Own.from (fun s A B row ⟨Bx, h2, h3⟩ hg hr => ⟨Bx, heap_cells_own (β := Unit) (fun _ => Bx) (fun _ => .cells #[.int .i64 x.1, .int .i64 x.2] 73 (0, 0)) (fun _ => rfl) () A B row h2 hg hr, h3⟩) _)
          ?assign ?body ?done ?stop
        case assign =>
          rintro l pre x W K ⟨⟨b1, hb'⟩, hm'⟩ hK
          dsimp only [encN]
          gi_wp2
          exact hK _ _ ((KeepsOthers.alloc _ _).from _) (KeepsWalks.alloc _ _) ⟨⟨b1.alloc _, hb'.alloc hb'.size _⟩, hm'.alloc _⟩ ⟨W.heap.size, World.alloc_heap_new W _, rfl⟩
        case body =>
          rintro l pre x a' W hl ⟨r, hr⟩ ⟨⟨b1, hb'⟩, hm'⟩ ⟨Bx, bX, rfl⟩ hlt
          obtain ⟨q, hq⟩ : ∃ q, pre.foldl needStep m = q := ⟨_, rfl⟩
          rw [hq] at b1
          have Hq := Lib.hid hq
          clear hq
          have c1 := b1.cell
          have f1 := b1.frozen
          have cX := heap_cells_cell bX
          by_cases hx : (bits BinOp.and IntKind.i64 q x.2 == x.2) = true
          · gi_wp2
            refine ⟨KeepsFrom.refl _ _, KeepsWalks.refl _, ⟨?_, hb'⟩, hm'⟩
            rw [foldl_snoc_need, Hq.out]; unfold needStep; rw [if_pos hx]; exact b1
          · have hx' : (bits BinOp.and IntKind.i64 q x.2 != x.2) = true := by simpa using hx
            gi_wp2
            refine ⟨(KeepsOthers.setCell _ _ _).from _, (KeepsOthers.setCell _ _ _).walks, ⟨?_, hb'.setCell (p := ⟨w.heap.size, 0, none⟩) (Nat.le_refl _) _⟩, hm'.setCell _ _⟩
            rw [foldl_snoc_need, Hq.out]; unfold needStep; rw [if_neg hx]; exact b1.set _
        case done =>
          rintro D ys W' hD rfl ⟨⟨b1, hb'⟩, hm'⟩ hK
          gi_wp2
          refine ⟨⟨m, needPass m, D :: Ds, _, _, _, _, _, _, _, _, _, _, _, _, _, _, _, _, _, _, _, _, _, _, _, _, _, _, _, _, _, rfl, b1, hb', hm'.cons hK (by have := hbx.lt; omega) (fun h => by have := hmk.lt D h; omega), ?_⟩, ?_⟩
          · exact agSt_step Hp0.out Hst.out
          · show agRank g m < agRank g was
            exact agRank_step hp1 (by simpa using hwm) Hst.out
        case stop =>
          rintro D c pre W hD _ h _
          exact h.elim
      · have hwm' : was = m := by simpa using hwm
        subst hwm'
        by_cases h3 : (bits BinOp.and IntKind.i64 was 3 == 0) = true
        all_goals
          gi_wp2
          refine leaves_marks Ds W hmk (fun W' hk hb => ?_)
          refine ⟨_, results_tmp rfl _ _ _, ?_, hbl.trans hb⟩
          have e := agSt_end hg0 Hst.out
          unfold agreeP
          rw [Hg.out, ← e]
          first | rw [if_pos h3]; rfl | rw [if_neg h3]; rfl
end Go.Proofs.Ytkfkkglodjehpaa.Ag
