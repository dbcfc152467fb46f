import Derived.Test.YtkkmjjddalpocaaDoorTok3
import Derived.RegionTactic
import Derived.ChangeAlike
namespace Go.Proofs.YtkkmjjddalpocaaDoor
open Go.RowKit
set_option linter.unusedVariables false
set_option maxHeartbeats 800000
/-! ### The side of the program: what comes from the other side, what the user does -/
/-- give from the other side -/
def giveS (s : TS) (a : Int) : TS := forgetN { s with theirs := bits .andNot .i64 s.theirs a, mine := bits .or .i64 s.mine a } (toks a)
set_option maxRecDepth 100000 in
theorem below_give (b : Nat) (s : TS) (e : Ev) (w : World) (hp : Pt w b TSide s.cells) (hT : Tab w) (hk : (e.kind == 1) = false) (a : Int) (ha : bits .and .i64 e.a s.theirs = a) (h0 : 0 ≤ a) (h1 : a ≤ 15) :
    Calls Tryd.prog 27 #[.pointer (some ⟨b, 0, none⟩), e.val] w fun r w' => (∃ v, r = .returned v ∧ EvRes w.heap.size w' v (if a = 0 then [] else [toldEv e.kind a 0])) ∧ Pt w' b TSide (giveS s a).cells ∧ Fr [b] w w' := by
  obtain ⟨way, kind, ea, eb, ec, data⟩ := e
  dsimp only [Ev.val] at hk ha ⊢
  have hlt := hp.lt
  have hlt1 : b < w.heap.size + 1 := by omega
  have hlt2 : b < w.heap.size + 1 + 1 := by omega
  have hlt3 : b < w.heap.size + 1 + 1 + 1 := by omega
  obtain ⟨smade, smine, stheirs, s0, s1, s2, s3⟩ := s
  have hc := hp.cell
  have hfz := hp.free
  simp only [TS.cells] at hc
  dsimp only at ha
  have HP := Lib.hid hp
  have HT := Lib.hid hT
  clear hp hT
  go_enter Tryd.func27, Tryd.ntmps27
  go_wp2_with fail
  have hbne := HT.out.ne HP.out (by simp [TS.cells])
  have hp2 : Pt (((((w.setCell ⟨b, 2, none⟩ (.int .i64 (bits .andNot .i64 stheirs a))).setCell ⟨b, 1, none⟩ (.int .i64 (bits .or .i64 smine a))).alloc (.cells #[.pointer (some ⟨b, 0, none⟩)] 25)).alloc (.cells #[.int .i64 way, .int .i64 kind, .int .i64 ea, .int .i64 eb, .int .i64 ec, .string data] TEv)).alloc (.cells #[.int .i64 0, .int .i64 kind, .int .i64 0, .int .i64 0, .int .i64 0, .string ⟨#[]⟩] TEv)) b TSide (TS.cells ⟨smade, bits .or .i64 smine a, bits .andNot .i64 stheirs a, s0, s1, s2, s3⟩) := ((((HP.out.set' rfl).set' rfl).alloc _).alloc _).alloc _
  have hf2 : Fr [b] w (((((w.setCell ⟨b, 2, none⟩ (.int .i64 (bits .andNot .i64 stheirs a))).setCell ⟨b, 1, none⟩ (.int .i64 (bits .or .i64 smine a))).alloc (.cells #[.pointer (some ⟨b, 0, none⟩)] 25)).alloc (.cells #[.int .i64 way, .int .i64 kind, .int .i64 ea, .int .i64 eb, .int .i64 ec, .string data] TEv)).alloc (.cells #[.int .i64 0, .int .i64 kind, .int .i64 0, .int .i64 0, .int .i64 0, .string ⟨#[]⟩] TEv)) := (((((Fr.refl [b] w).setCell (by simp) _).setCell (by simp) _).alloc _).alloc _).alloc _
  have hp3 : Pt (((((w.setCell ⟨b, 2, none⟩ (.int .i64 (bits .andNot .i64 stheirs a))).setCell ⟨b, 1, none⟩ (.int .i64 (bits .or .i64 smine a))).alloc (.cells #[.pointer (some ⟨b, 0, none⟩)] 25)).alloc (.cells #[.int .i64 way, .int .i64 kind, .int .i64 ea, .int .i64 eb, .int .i64 ec, .string data] TEv)).alloc (.cells #[.int .i64 0, .int .i64 kind, .int .i64 0, .int .i64 0, .int .i64 0, .string ⟨#[]⟩] TEv)) (w.heap.size + 1 + 1) TEv [.int .i64 0, .int .i64 kind, .int .i64 0, .int .i64 0, .int .i64 0, .string ⟨#[]⟩] := by
    have := Pt.newA ((((w.setCell ⟨b, 2, none⟩ (.int .i64 (bits .andNot .i64 stheirs a))).setCell ⟨b, 1, none⟩ (.int .i64 (bits .or .i64 smine a))).alloc (.cells #[.pointer (some ⟨b, 0, none⟩)] 25)).alloc (.cells #[.int .i64 way, .int .i64 kind, .int .i64 ea, .int .i64 eb, .int .i64 ec, .string data] TEv)) TEv #[.int .i64 0, .int .i64 kind, .int .i64 0, .int .i64 0, .int .i64 0, .string ⟨#[]⟩]
    simpa using this
  generalize ((((w.setCell ⟨b, 2, none⟩ (.int .i64 (bits .andNot .i64 stheirs a))).setCell ⟨b, 1, none⟩ (.int .i64 (bits .or .i64 smine a))).alloc (.cells #[.pointer (some ⟨b, 0, none⟩)] 25)).alloc (.cells #[.int .i64 way, .int .i64 kind, .int .i64 ea, .int .i64 eb, .int .i64 ec, .string data] TEv)).alloc (.cells #[.int .i64 0, .int .i64 kind, .int .i64 0, .int .i64 0, .int .i64 0, .string ⟨#[]⟩] TEv) = W1 at *
  refine (forget_any b _ a W1 hp2 (HT.out.fr hf2 (by simp; omega) HT.out.lt) h0 h1).mono ?_
  rintro r w1 ⟨rfl, hq, hf⟩
  have hf3 := hf2.trans hf
  have hp4 := hf.pt hp3 (by simp; omega)
  have hz := hf3.size
  have c4 := hp4.cell
  have f4 := hp4.free
  clear hc hfz
  have HA := Lib.hid ha
  clear ha hp2 hp3
  by_cases ha0 : a = 0
  · subst ha0
    go_wp2
    go_ret
    exact ⟨⟨_, rfl, .inl ⟨rfl, rfl⟩⟩, hq, hf3⟩
  · have ha1 : (a == 0) = false := by simpa using ha0
    have hq1 : Pt (w1.setCell ⟨w.heap.size + 1 + 1, 2, none⟩ (.int .i64 a)) b TSide _ := hq.ne (by simp; omega) _
    have hq3 : Fr [b] w (w1.setCell ⟨w.heap.size + 1 + 1, 2, none⟩ (.int .i64 a)) := hf3.setCell (by simp; omega) _
    have hzz : w1.heap.size = (w1.setCell ⟨w.heap.size + 1 + 1, 2, none⟩ (.int .i64 a)).heap.size := by simp
    have H1 := Lib.hid hq1; have H3 := Lib.hid hq3; have H4 := Lib.hid hzz
    clear hq1 hq3 hzz
    go_wp2
    go_ret
    refine ⟨⟨_, rfl, .inr ⟨w1.heap.size, toldEv kind a 0, rfl, (by first | rfl | rw [if_neg ha0]), ?_, hz⟩⟩, Pt.alloc H1.out _, Fr.alloc H3.out _⟩
    rw [H4.out]; exact Pt.newA _ _ _
end Go.Proofs.YtkkmjjddalpocaaDoor
