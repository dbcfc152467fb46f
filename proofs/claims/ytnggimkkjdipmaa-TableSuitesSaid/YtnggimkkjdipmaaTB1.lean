import Derived.Test.YtnggimkkjdipmaaTP3
import Derived.Test.YtnggimkkjdipmaaMaps
import Derived.Test.YtnggimkkjdipmaaProg
import Derived.Deep.RegionHeld3
import Derived.WalkSpells
import Derived.Laws.Cover3
import Derived.WalkLawsBesides
import Derived.Deep.RegionLaw
import Derived.Deep.QuietTactic
import Derived.BigQuiet
import Derived.Outline
import Derived.Deep.LoopGhost
import Derived.StillTailTactics
import Derived.BigRegion
namespace Go.Proofs.Ytnggimkkjdipmaa
open Go.RowKit
set_option linter.unusedVariables false
set_option linter.unusedSimpArgs false
set_option maxHeartbeats 4000000
set_option maxRecDepth 20000
/-! ### Lists in memory, read only -/
def NIn (w : World) (v : Value) (l : List Int) : Prop := ∃ o cap, v = .slice o l.length cap ∧ ∀ i (h : i < l.length), ∃ b off, o = some ⟨b, off, none⟩ ∧ b < w.heap.size ∧ w.cell? ⟨b, off + i, none⟩ = some (.int .i64 l[i])
def PIn (w : World) (v : Value) (l : List (Int × Int)) : Prop := ∃ o cap, v = .slice o l.length cap ∧ ∀ i (h : i < l.length), ∃ b off, o = some ⟨b, off, none⟩ ∧ b < w.heap.size ∧ w.cell? ⟨b, off + i * 2, none⟩ = some (.int .i64 l[i].1) ∧ w.cell? ⟨b, off + i * 2 + 1, none⟩ = some (.int .i64 l[i].2)
def RIn (w : World) (v : Value) (l : List (List (Int × Int))) : Prop := ∃ o cap, v = .slice o l.length cap ∧ ∀ i (h : i < l.length), ∃ b off u, o = some ⟨b, off, none⟩ ∧ b < w.heap.size ∧ w.cell? ⟨b, off + i, none⟩ = some u ∧ PIn w u l[i]
theorem NIn.fr {w w' : World} {v : Value} {l : List Int} (h : NIn w v l) (hf : Fr [] w w') : NIn w' v l := by
  obtain ⟨o, cap, h1, h2⟩ := h
  refine ⟨o, cap, h1, fun i hi => ?_⟩
  obtain ⟨b, off, e, hb, hc⟩ := h2 i hi
  exact ⟨b, off, e, Nat.lt_of_lt_of_le hb hf.size, by rw [hf.cell (p := ⟨b, off + i, none⟩) hb (by simp)]; exact hc⟩
theorem PIn.fr {w w' : World} {v : Value} {l : List (Int × Int)} (h : PIn w v l) (hf : Fr [] w w') : PIn w' v l := by
  obtain ⟨o, cap, h1, h2⟩ := h
  refine ⟨o, cap, h1, fun i hi => ?_⟩
  obtain ⟨b, off, e, hb, hc, hd⟩ := h2 i hi
  exact ⟨b, off, e, Nat.lt_of_lt_of_le hb hf.size, by rw [hf.cell (p := ⟨b, off + i * 2, none⟩) hb (by simp)]; exact hc, by rw [hf.cell (p := ⟨b, off + i * 2 + 1, none⟩) hb (by simp)]; exact hd⟩
theorem RIn.fr {w w' : World} {v : Value} {l : List (List (Int × Int))} (h : RIn w v l) (hf : Fr [] w w') : RIn w' v l := by
  obtain ⟨o, cap, h1, h2⟩ := h
  refine ⟨o, cap, h1, fun i hi => ?_⟩
  obtain ⟨b, off, u, e, hb, hc, hd⟩ := h2 i hi
  exact ⟨b, off, u, e, Nat.lt_of_lt_of_le hb hf.size, by rw [hf.cell (p := ⟨b, off + i, none⟩) hb (by simp)]; exact hc, hd.fr hf⟩
abbrev TTab : TypeId := 24
abbrev RTab : TypeId := 32
abbrev TRow : TypeId := 73
abbrev RRow : TypeId := 90
def Tb.val (T : Tb) (r : Value) : Value := .agg #[.int .i64 T.st, .int .i64 T.ev, .int .i64 T.sr, r]
def Tb.cells (T : Tb) (r : Value) : List Value := [.int .i64 T.st, .int .i64 T.ev, .int .i64 T.sr, r]
/-- A table by value. -/
def TIn (w : World) (v : Value) (T : Tb) : Prop := ∃ r, v = T.val r ∧ RIn w r T.rows
theorem TIn.fr {w w' : World} {v : Value} {T : Tb} (h : TIn w v T) (hf : Fr [] w w') : TIn w' v T := by
  obtain ⟨r, h1, h2⟩ := h
  exact ⟨r, h1, h2.fr hf⟩
theorem ret_b {a b : Bool} (h : a = b) : Ending.returned (.bool a) = .returned (.bool b) := by rw [h]
end Go.Proofs.Ytnggimkkjdipmaa
