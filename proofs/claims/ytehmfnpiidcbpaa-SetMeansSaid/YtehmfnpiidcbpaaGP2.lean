import Derived.Test.YtehmfnpiidcbpaaGP1
namespace Go.Proofs.Ytehmfnpiidcbpaa
set_option linter.unusedVariables false
set_option linter.unusedSimpArgs false
/-! ### What an operation on two sets answers, plain -/
def okAB (a b : List Rg) : Bool := valS a && valS b
/-- Error c and list l are the answer of an operation whose numbers are those of m. -/
def OpP (a b : List Rg) (m : Int → Prop) (c : Int) (l : List Rg) : Prop :=
  (okAB a b = false ∧ c = 1 ∧ l = []) ∨
  (okAB a b = true ∧ ∃ out, Nf out ∧ (∀ x, inS out x ↔ m x) ∧ ((c = 2 ∧ l = [] ∧ 100 < out.length) ∨ (c = 0 ∧ l = out ∧ out.length ≤ 100)))
theorem OpP.one {a b a' b' : List Rg} {m m' : Int → Prop} {c c' : Int} {l l' : List Rg} (h : OpP a b m c l) (h' : OpP a' b' m' c' l') (he : okAB a b = okAB a' b') (hm : ∀ x, m x ↔ m' x) : c = c' ∧ l = l' := by
  rcases h with ⟨h1, rfl, rfl⟩ | ⟨h1, out, h2, h3, h4⟩
  · rcases h' with ⟨_, rfl, rfl⟩ | ⟨h5, _⟩
    · exact ⟨rfl, rfl⟩
    · rw [h1, h5] at he; cases he
  · rcases h' with ⟨h5, _⟩ | ⟨_, out', h6, h7, h8⟩
    · rw [h1, h5] at he; cases he
    · have e : out = out' := Nf.ext h2 h6 fun x => by rw [h3, h7, hm]
      subst e
      rcases h4 with ⟨rfl, rfl, h9⟩ | ⟨rfl, rfl, h9⟩ <;> rcases h8 with ⟨rfl, rfl, h10⟩ | ⟨rfl, rfl, h10⟩
      · exact ⟨rfl, rfl⟩
      · omega
      · omega
      · exact ⟨rfl, rfl⟩
theorem okAB_comm (a b : List Rg) : okAB a b = okAB b a := Bool.and_comm _ _
theorem okAB_iff {a b : List Rg} : okAB a b = true ↔ (Nf a ∧ Bd a ∧ a.length ≤ 100) ∧ Nf b ∧ Bd b ∧ b.length ≤ 100 := by
  unfold okAB; rw [Bool.and_eq_true, valS_iff, valS_iff]
/-- An answer without an error. -/
theorem OpP.ok {a b : List Rg} {m : Int → Prop} {l : List Rg} (h : OpP a b m 0 l) : okAB a b = true ∧ Nf l ∧ (∀ x, inS l x ↔ m x) ∧ l.length ≤ 100 := by
  rcases h with ⟨_, h, _⟩ | ⟨h1, out, h2, h3, ⟨h4, _⟩ | ⟨_, rfl, h5⟩⟩
  · omega
  · omega
  · exact ⟨h1, h2, h3, h5⟩
theorem OpP.code {a b : List Rg} {m : Int → Prop} {c : Int} {l : List Rg} (h : OpP a b m c l) : c = 0 ∨ ((c = 1 ∨ c = 2) ∧ l = []) := by
  rcases h with ⟨_, h, h2⟩ | ⟨_, out, _, _, ⟨h4, h5, _⟩ | ⟨h4, _⟩⟩
  · exact .inr ⟨.inl h, h2⟩
  · exact .inr ⟨.inr h4, h5⟩
  · exact .inl h4
theorem OpP.len {a b : List Rg} {m : Int → Prop} {c : Int} {l : List Rg} (h : OpP a b m c l) : l.length ≤ 100 := by
  rcases h with ⟨_, _, rfl⟩ | ⟨_, out, _, _, ⟨_, rfl, _⟩ | ⟨_, rfl, h5⟩⟩
  · simp
  · simp
  · exact h5
def unM (a b : List Rg) (x : Int) : Prop := inS a x ∨ inS b x
def meM (a b : List Rg) (x : Int) : Prop := inS a x ∧ inS b x
def exM (a b : List Rg) (x : Int) : Prop := inS a x ∧ ¬ inS b x
theorem unM_comm (a b : List Rg) (x : Int) : unM a b x ↔ unM b a x := Or.comm
theorem meM_comm (a b : List Rg) (x : Int) : meM a b x ↔ meM b a x := And.comm
/-- The parts of a set make it up. -/
theorem parts_law {a b m d w : List Rg} (hm : OpP a b (meM a b) 0 m) (hd : OpP a b (exM a b) 0 d) {c : Int} (hw : OpP m d (unM m d) c w) : c = 0 ∧ w = a ∧ okAB m d = true ∧ szS m + szS d = szS a := by
  obtain ⟨h1, m1, m2, m3⟩ := hm.ok
  obtain ⟨_, d1, d2, d3⟩ := hd.ok
  obtain ⟨⟨a1, a2, a3⟩, b1, b2, b3⟩ := okAB_iff.1 h1
  have hmb : Bd m := fun x hx => a2 x ((m2 x).1 hx).1
  have hdb : Bd d := fun x hx => a2 x ((d2 x).1 hx).1
  have hmd : okAB m d = true := okAB_iff.2 ⟨⟨m1, hmb, m3⟩, d1, hdb, d3⟩
  have hx : ∀ x, inS a x ↔ inS m x ∨ inS d x := fun x => by
    rw [m2, d2]; unfold meM exM
    constructor
    · intro h
      by_cases hb : inS b x
      · exact .inl ⟨h, hb⟩
      · exact .inr ⟨h, hb⟩
    · rintro (h | h) <;> exact h.1
  have hu : OpP m d (unM m d) 0 a := .inr ⟨hmd, a, a1, fun x => hx x, .inr ⟨rfl, rfl, a3⟩⟩
  obtain ⟨e1, e2⟩ := hw.one hu rfl fun x => Iff.rfl
  refine ⟨e1, e2, hmd, szS_parts m1 d1 a1 a2 hx fun x ⟨h2, h3⟩ => ?_⟩
  exact ((d2 x).1 h3).2 ((m2 x).1 h2).2
/-- A number in a list of ranges, asked. -/
def hasF (s : List Rg) (x : Int) : Bool := s.any fun r => decide (r.1 ≤ x) && decide (x ≤ r.2)
theorem hasF_iff (s : List Rg) (x : Int) : hasF s x = true ↔ inS s x := by
  unfold hasF inS
  simp
end Go.Proofs.Ytehmfnpiidcbpaa
