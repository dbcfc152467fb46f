import Derived.Test.YtjgmlnkbplgloaaQ1
namespace Go.Proofs.Ytjgmlnkbplgloaa
open Go.RowKit
set_option linter.unusedVariables false
set_option linter.unusedSimpArgs false
set_option maxHeartbeats 8000000
set_option maxRecDepth 20000
/-! ### Plain: a resynchronisation that was answered -/
def downs (l : List Ev) : List Ev := l.filter fun e => e.way == 1
def isMin (e : Ev) : Prop := e.way = 1 ∧ e.kind = 1
/-- What a side that waits does not mind. -/
def Harm (s : SS) (e : Ev) : Prop := e.way = 1 ∧ (e.kind = 1 ∨ (e.kind = 5 ∧ s.wins e = true))
theorem isMin.harm {s : SS} {e : Ev} (h : isMin e) : Harm s e := ⟨h.1, .inl h.2⟩
theorem on_harm {s : SS} {e : Ev} (hw : s.wt = true) (h : Harm s e) : (onS s e).1 = s ∧ downs (onS s e).2.1 = [] := by
  obtain ⟨h1, h2⟩ := h
  unfold onS
  split
  · rw [if_neg (by omega)]
    dsimp only
    unfold belowS
    rcases h2 with h2 | ⟨h2, h3⟩
    · rw [if_pos ⟨hw, by omega⟩]; exact ⟨rfl, rfl⟩
    · rw [if_neg (by omega), if_neg (by omega), if_neg (by omega), if_neg (by omega), if_pos h2]
      unfold reqS
      split
      · exact ⟨rfl, rfl⟩
      · rw [if_pos ⟨hw, h3⟩]; exact ⟨rfl, rfl⟩
  · exact ⟨rfl, rfl⟩
/-- What stays of a side that takes points of the other one. -/
structure Kept (s s' : SS) : Prop where
  wt : s'.wt = s.wt
  kt : s'.kt = s.kt
  wh : s'.wh = s.wh
  wn : s'.wn = s.wn
  r : s'.r = s.r
  first : s'.first = s.first
  m : s.m ≤ s'.m
theorem Kept.refl (s : SS) : Kept s s := ⟨rfl, rfl, rfl, rfl, rfl, rfl, Int.le_refl _⟩
theorem Kept.wins {s s' : SS} (h : Kept s s') (e : Ev) : s'.wins e = s.wins e := by unfold SS.wins; rw [h.wh, h.wn, h.first]
theorem kept_pt1 (s : SS) (k : Int) (b : Bool) : Kept s (pt1 s k b) := by
  unfold pt1
  split
  · exact ⟨rfl, rfl, rfl, rfl, rfl, rfl, by show s.m ≤ s.m + 1; omega⟩
  · split <;> exact ⟨rfl, rfl, rfl, rfl, rfl, rfl, by show s.m ≤ s.m + 1; omega⟩
theorem on_min {s : SS} {e : Ev} (h : isMin e) : Kept s (onS s e).1 ∧ downs (onS s e).2.1 = [] := by
  obtain ⟨h1, h2⟩ := h
  unfold onS
  split
  · rw [if_neg (by omega)]
    dsimp only
    unfold belowS
    split
    · exact ⟨Kept.refl s, rfl⟩
    · rw [if_pos (.inl h2)]
      split
      · exact ⟨Kept.refl s, rfl⟩
      · exact ⟨kept_pt1 s _ _, rfl⟩
  · exact ⟨Kept.refl s, rfl⟩
def reqE (h n : Int) : Ev := ⟨1, 5, n, h, 0, ByteArray.empty⟩
def ansE (h n : Int) : Ev := ⟨1, 7, n, h, 0, ByteArray.empty⟩
def ptE : Ev := ⟨0, 1, 0, 0, 0, ByteArray.empty⟩
def beginE (h n : Int) : Ev := ⟨0, 5, n, h, 0, ByteArray.empty⟩
def replyE (n : Int) : Ev := ⟨0, 7, n, 0, 0, ByteArray.empty⟩
theorem good_req {h n : Int} (hh : h = 0 ∨ h = 1 ∨ h = 2) (hn : 0 ≤ n ∧ n ≤ 999999) : goodE (reqE h n) = true := by
  have : 0 ≤ h ∧ h ≤ 2 := by omega
  simp [goodE, reqE, inR, bOk, hn, this]
theorem good_ans {h n : Int} (hh : h = 0 ∨ h = 1 ∨ h = 2) (hn : 0 ≤ n ∧ n ≤ 999999) : goodE (ansE h n) = true := by
  have : 0 ≤ h ∧ h ≤ 2 := by omega
  simp [goodE, ansE, inR, bOk, hn, this]
/-- A request comes, and nothing goes ahead of it. -/
theorem on_req {s : SS} {h n : Int} (hh : h = 0 ∨ h = 1 ∨ h = 2) (hn : 0 ≤ n ∧ n ≤ 999999) (hr : h = 0 → s.r ≤ n ∧ n ≤ s.m) (hm : 0 ≤ s.m ∧ s.m ≤ 999999) (hw : s.wt = true → s.wins (reqE h n) = false) :
    (onS s (reqE h n)).1.wt = false ∧ (onS s (reqE h n)).1.kt = true ∧ (onS s (reqE h n)).1.kh = h ∧ (0 ≤ (onS s (reqE h n)).1.kn ∧ (onS s (reqE h n)).1.kn ≤ 999999) ∧ downs (onS s (reqE h n)).2.1 = [] := by
  unfold onS
  rw [if_pos (good_req hh hn), if_neg (by simp [reqE])]
  dsimp only
  unfold belowS
  rw [if_neg (by simp [reqE]), if_neg (by simp [reqE]), if_neg (by simp [reqE]), if_neg (by simp [reqE]), if_pos (show (reqE h n).kind = 5 from rfl)]
  unfold reqS
  have h1 : ¬ ((reqE h n).b = 0 ∧ ((reqE h n).a < s.r ∨ s.m < (reqE h n).a)) := by
    rintro ⟨h0, hx⟩
    have := hr h0
    simp only [reqE] at hx
    omega
  have h2 : ¬ (s.wt = true ∧ s.wins (reqE h n) = true) := by
    rintro ⟨h0, hx⟩
    rw [hw h0] at hx
    cases hx
  rw [if_neg h1, if_neg h2]
  refine ⟨rfl, rfl, rfl, ?_, rfl⟩
  show 0 ≤ (if h = 1 then max n s.m else n) ∧ (if h = 1 then max n s.m else n) ≤ 999999
  by_cases q : h = 1
  · rw [if_pos q]; omega
  · rw [if_neg q]; omega
/-- The user answers. -/
theorem on_reply {s : SS} (hw : s.wt = false) (hk : s.kt = true) (hn : 0 ≤ s.kn ∧ s.kn ≤ 999999) :
    (onS s (replyE s.kn)).1.wt = false ∧ (onS s (replyE s.kn)).1.kt = false ∧ (onS s (replyE s.kn)).1.m = s.kn ∧ downs (onS s (replyE s.kn)).2.1 = [ansE s.kh s.kn] := by
  have hg : goodE (replyE s.kn) = true := by simp [goodE, replyE, inR, bOk, hn]
  unfold onS
  rw [if_pos hg, if_pos (show (replyE s.kn).way = 0 from rfl)]
  unfold userS
  rw [if_neg (by rw [hw]; simp), if_pos (show (replyE s.kn).kind = 7 from rfl), if_pos hk, if_pos (show s.kh = 2 ∨ (replyE s.kn).a = s.kn from .inr rfl)]
  exact ⟨rfl, rfl, rfl, rfl⟩
/-- The answer comes. -/
theorem on_ans {s : SS} {h n : Int} (hh : h = 0 ∨ h = 1 ∨ h = 2) (hn : 0 ≤ n ∧ n ≤ 999999) (hw : s.wt = true) :
    (onS s (ansE h n)).1.wt = false ∧ (onS s (ansE h n)).1.kt = false ∧ (onS s (ansE h n)).1.m = n ∧ downs (onS s (ansE h n)).2.1 = [] := by
  unfold onS
  rw [if_pos (good_ans hh hn), if_neg (by simp [ansE])]
  dsimp only
  unfold belowS
  rw [if_neg (by simp [ansE]), if_neg (by simp [ansE]), if_neg (by simp [ansE]), if_neg (by simp [ansE]), if_neg (by simp [ansE]), if_pos hw]
  exact ⟨rfl, rfl, rfl, rfl⟩
/-- What a side does by itself: its user answers, or it takes what is on the way. -/
def actK (s : SS) (r : List Ev) : SS × List Ev × List Ev :=
  if s.kt = true then ((onS s (replyE s.kn)).1, r, downs (onS s (replyE s.kn)).2.1)
  else match r with
    | [] => (s, [], [])
    | e :: t => ((onS s e).1, t, downs (onS s e).2.1)
theorem SJ.act {k : Nat} {s : SS} (h : SJ k s) (r : List Ev) : SJ (k + 1) (actK s r).1 := by
  unfold actK
  split
  · exact h.on _
  · split
    · exact h.le (Nat.le_succ k)
    · exact h.on _
/-- x asked, and is ahead; y is to answer. rx, ry: what is on the way to them. -/
def J1 (x y : SS) (rx ry : List Ev) : Prop := ∃ h n, (h = 0 ∨ h = 1 ∨ h = 2) ∧ (0 ≤ n ∧ n ≤ 999999) ∧ x.wt = true ∧ x.kt = false ∧ (∀ e ∈ rx, Harm x e) ∧ (∃ ms, (∀ e ∈ ms, isMin e) ∧ ry = ms ++ [reqE h n]) ∧ y.kt = false ∧ (h = 0 → y.r ≤ n ∧ n ≤ y.m) ∧ (y.wt = true → y.wins (reqE h n) = false)
def J2 (x y : SS) (rx ry : List Ev) : Prop := x.wt = true ∧ x.kt = false ∧ (∀ e ∈ rx, Harm x e) ∧ ry = [] ∧ y.wt = false ∧ y.kt = true ∧ (y.kh = 0 ∨ y.kh = 1 ∨ y.kh = 2) ∧ (0 ≤ y.kn ∧ y.kn ≤ 999999)
def J3 (x y : SS) (rx ry : List Ev) : Prop := ∃ h n, (h = 0 ∨ h = 1 ∨ h = 2) ∧ (0 ≤ n ∧ n ≤ 999999) ∧ x.wt = true ∧ x.kt = false ∧ (∃ ms, (∀ e ∈ ms, Harm x e) ∧ rx = ms ++ [ansE h n]) ∧ ry = [] ∧ y.wt = false ∧ y.kt = false ∧ y.m = n
def J4 (x y : SS) (rx ry : List Ev) : Prop := rx = [] ∧ ry = [] ∧ x.wt = false ∧ x.kt = false ∧ y.wt = false ∧ y.kt = false ∧ x.m = y.m
def JC (x y : SS) (rx ry : List Ev) : Prop := J1 x y rx ry ∨ J2 x y rx ry ∨ J3 x y rx ry ∨ J4 x y rx ry
theorem JC.actx {x y : SS} {rx ry : List Ev} (h : JC x y rx ry) : JC (actK x rx).1 y (actK x rx).2.1 (ry ++ (actK x rx).2.2) := by
  rcases h with ⟨h, n, hh, hn, hw, hk, hx, hy, h1, h2, h3⟩ | ⟨hw, hk, hx, hy, h1⟩ | ⟨h, n, hh, hn, hw, hk, ⟨ms, hm, rfl⟩, hy, h1, h2, h3⟩ | ⟨rfl, hy, h1, h2, h3⟩
  · unfold actK
    rw [if_neg (by rw [hk]; simp)]
    cases rx with
    | nil => exact .inl ⟨h, n, hh, hn, hw, hk, by simp, by simpa using hy, h1, h2, h3⟩
    | cons e t =>
      obtain ⟨q1, q2⟩ := on_harm hw (hx e (by simp))
      dsimp only
      rw [q1, q2, List.append_nil]
      exact .inl ⟨h, n, hh, hn, hw, hk, fun e he => hx e (by simp [he]), hy, h1, h2, h3⟩
  · unfold actK
    rw [if_neg (by rw [hk]; simp)]
    cases rx with
    | nil => exact .inr (.inl ⟨hw, hk, by simp, by simpa using hy, h1⟩)
    | cons e t =>
      obtain ⟨q1, q2⟩ := on_harm hw (hx e (by simp))
      dsimp only
      rw [q1, q2, List.append_nil]
      exact .inr (.inl ⟨hw, hk, fun e he => hx e (by simp [he]), hy, h1⟩)
  · unfold actK
    rw [if_neg (by rw [hk]; simp)]
    cases ms with
    | nil =>
      obtain ⟨q1, q2, q3, q4⟩ := on_ans hh hn hw
      show JC (onS x (ansE h n)).1 y [] (ry ++ downs (onS x (ansE h n)).2.1)
      rw [q4, hy]
      exact .inr (.inr (.inr ⟨rfl, rfl, q1, q2, h1, h2, by rw [q3, h3]⟩))
    | cons e t =>
      obtain ⟨q1, q2⟩ := on_harm hw (hm e (by simp))
      show JC (onS x e).1 y (t ++ [ansE h n]) (ry ++ downs (onS x e).2.1)
      rw [q1, q2, hy]
      exact .inr (.inr (.inl ⟨h, n, hh, hn, hw, hk, ⟨t, fun e he => hm e (by simp [he]), rfl⟩, rfl, h1, h2, h3⟩))
  · unfold actK
    rw [if_neg (by rw [h2]; simp)]
    exact .inr (.inr (.inr ⟨rfl, by simpa using hy, h1, h2, h3⟩))
theorem JC.acty {x y : SS} {rx ry : List Ev} (hy0 : 0 ≤ y.m ∧ y.m ≤ 999999) (h : JC x y rx ry) : JC x (actK y ry).1 (rx ++ (actK y ry).2.2) (actK y ry).2.1 := by
  rcases h with ⟨h, n, hh, hn, hw, hk, hx, ⟨ms, hm, rfl⟩, h1, h2, h3⟩ | ⟨hw, hk, hx, rfl, h1, h2, h3, h4⟩ | ⟨h, n, hh, hn, hw, hk, hx, rfl, h1, h2, h3⟩ | ⟨hx, rfl, h0, h1, h2, h3, h4⟩
  · unfold actK
    rw [if_neg (by rw [h1]; simp)]
    cases ms with
    | nil =>
      obtain ⟨q1, q2, q3, q4, q5⟩ := on_req hh hn h2 hy0 h3
      show JC x (onS y (reqE h n)).1 (rx ++ downs (onS y (reqE h n)).2.1) []
      rw [q5, List.append_nil]
      exact .inr (.inl ⟨hw, hk, hx, rfl, q1, q2, by rw [q3]; exact hh, q4⟩)
    | cons e t =>
      obtain ⟨q1, q2⟩ := on_min (s := y) (hm e (by simp))
      show JC x (onS y e).1 (rx ++ downs (onS y e).2.1) (t ++ [reqE h n])
      rw [q2, List.append_nil]
      exact .inl ⟨h, n, hh, hn, hw, hk, hx, ⟨t, fun e he => hm e (by simp [he]), rfl⟩, by rw [q1.kt]; exact h1, fun h0 => by have := h2 h0; have := q1.m; rw [q1.r]; omega, fun h0 => by rw [q1.wins]; exact h3 (by rw [← q1.wt]; exact h0)⟩
  · unfold actK
    rw [if_pos h2]
    obtain ⟨q1, q2, q3, q4⟩ := on_reply h1 h2 h4
    dsimp only
    rw [q4]
    exact .inr (.inr (.inl ⟨y.kh, y.kn, h3, h4, hw, hk, ⟨rx, hx, rfl⟩, rfl, q1, q2, q3⟩))
  · unfold actK
    rw [if_neg (by rw [h2]; simp)]
    exact .inr (.inr (.inl ⟨h, n, hh, hn, hw, hk, by simpa using hx, rfl, h1, h2, h3⟩))
  · unfold actK
    rw [if_neg (by rw [h3]; simp)]
    exact .inr (.inr (.inr ⟨by simpa using hx, rfl, h0, h1, h2, h3, h4⟩))
/-- Nobody asked yet. -/
def Idle (N : Int) (s : SS) : Prop := s.wt = false ∧ s.kt = false ∧ s.r = N ∧ N ≤ s.m
def J0 (N : Int) (x y : SS) (rx ry : List Ev) : Prop := Idle N x ∧ Idle N y ∧ (∀ e ∈ rx, isMin e) ∧ ∀ e ∈ ry, isMin e
theorem J0.swap {N : Int} {x y : SS} {rx ry : List Ev} (h : J0 N x y rx ry) : J0 N y x ry rx := ⟨h.2.1, h.1, h.2.2.2, h.2.2.1⟩
theorem Idle.kept {N : Int} {s s' : SS} (h : Idle N s) (k : Kept s s') : Idle N s' := ⟨by rw [k.wt]; exact h.1, by rw [k.kt]; exact h.2.1, by rw [k.r]; exact h.2.2.1, Int.le_trans h.2.2.2 k.m⟩
theorem J0.act {N : Int} {x y : SS} {rx ry : List Ev} (h : J0 N x y rx ry) : J0 N (actK x rx).1 y (actK x rx).2.1 (ry ++ (actK x rx).2.2) := by
  obtain ⟨hx, hy, h1, h2⟩ := h
  unfold actK
  rw [if_neg (by rw [hx.2.1]; simp)]
  cases rx with
  | nil => exact ⟨hx, hy, by simp, by simpa using h2⟩
  | cons e t =>
    obtain ⟨q1, q2⟩ := on_min (s := x) (h1 e (by simp))
    dsimp only
    rw [q2, List.append_nil]
    exact ⟨hx.kept q1, hy, fun e he => h1 e (by simp [he]), h2⟩
theorem on_pt (s : SS) (hw : s.wt = false) (hk : s.kt = false) : Kept s (onS s ptE).1 ∧ ∀ e ∈ downs (onS s ptE).2.1, isMin e := by
  have hg : goodE ptE = true := by simp [goodE, ptE]
  unfold onS
  rw [if_pos hg, if_pos (show ptE.way = 0 from rfl)]
  unfold userS
  rw [if_neg (by rw [hw]; simp), if_neg (by simp [ptE]), if_neg (by rw [hk]; simp), if_pos (show ptE.kind = 1 ∨ ptE.kind = 3 from .inl rfl)]
  split
  · exact ⟨Kept.refl s, by simp [downs]⟩
  · split
    · exact ⟨Kept.refl s, by simp [downs]⟩
    · exact ⟨kept_pt1 s ptE.kind true, by simp [downs, isMin, ptE]⟩
theorem J0.pt {N : Int} {x y : SS} {rx ry : List Ev} (h : J0 N x y rx ry) : J0 N (onS x ptE).1 y rx (ry ++ downs (onS x ptE).2.1) := by
  obtain ⟨hx, hy, h1, h2⟩ := h
  obtain ⟨q1, q2⟩ := on_pt x hx.1 hx.2.1
  exact ⟨hx.kept q1, hy, h1, fun e he => by rcases List.mem_append.mp he with he | he; exact h2 e he; exact q2 e he⟩
/-- A side asks. -/
theorem on_begin {N : Int} {s : SS} {h : Int} (hN : 0 ≤ N ∧ N ≤ 999999) (hh : h = 0 ∨ h = 1 ∨ h = 2) (hs : Idle N s) (hm : s.m ≤ 999999) :
    ∃ n, (0 ≤ n ∧ n ≤ 999999) ∧ (h = 0 → n = N) ∧ downs (onS s (beginE h N)).2.1 = [reqE h n] ∧ (onS s (beginE h N)).1 = { s with wt := true, wh := h, wn := n } := by
  obtain ⟨h1, h2, h3, h4⟩ := hs
  have hb : 0 ≤ h ∧ h ≤ 2 := by omega
  have hg : goodE (beginE h N) = true := by simp [goodE, beginE, inR, bOk, hN, hb]
  unfold onS
  rw [if_pos hg, if_pos (show (beginE h N).way = 0 from rfl)]
  unfold userS
  rw [if_neg (by rw [h1]; simp), if_neg (by simp [beginE]), if_neg (by rw [h2]; simp), if_neg (by simp [beginE]), if_neg (by simp [beginE]), if_neg (by simp [beginE])]
  unfold backS
  have h5 : ¬ ((beginE h N).b = 0 ∧ ((beginE h N).a < s.r ∨ s.m < (beginE h N).a)) := by
    rintro ⟨_, hx⟩
    simp only [beginE] at hx
    omega
  rw [if_neg h5]
  refine ⟨if h = 1 then s.m else N, ?_, ?_, rfl, rfl⟩
  · split <;> omega
  · intro h0; rw [if_neg (by omega)]
/-- One side asked, and nothing was taken since. -/
def JB (N : Int) (x y : SS) (rx ry : List Ev) : Prop := ∃ h n, (h = 0 ∨ h = 1 ∨ h = 2) ∧ (0 ≤ n ∧ n ≤ 999999) ∧ (h = 0 → n = N) ∧ x.wt = true ∧ x.kt = false ∧ x.wh = h ∧ x.wn = n ∧ x.r = N ∧ N ≤ x.m ∧ Idle N y ∧ (∀ e ∈ rx, isMin e) ∧ ∃ ms, (∀ e ∈ ms, isMin e) ∧ ry = ms ++ [reqE h n]
theorem JB.jc {N : Int} {x y : SS} {rx ry : List Ev} (h : JB N x y rx ry) : JC x y rx ry := by
  obtain ⟨h, n, hh, hn, h0, hw, hk, _, _, _, _, hy, hx, hr⟩ := h
  exact .inl ⟨h, n, hh, hn, hw, hk, fun e he => (hx e he).harm, hr, hy.2.1, fun h1 => by have := h0 h1; have := hy.2.2.1; have := hy.2.2.2; omega, fun h1 => by rw [hy.1] at h1; cases h1⟩
theorem J0.ask {N : Int} {x y : SS} {rx ry : List Ev} {h : Int} (hN : 0 ≤ N ∧ N ≤ 999999) (hh : h = 0 ∨ h = 1 ∨ h = 2) (hm : x.m ≤ 999999) (j : J0 N x y rx ry) : JB N (onS x (beginE h N)).1 y rx (ry ++ downs (onS x (beginE h N)).2.1) := by
  obtain ⟨hx, hy, h1, h2⟩ := j
  obtain ⟨n, hn, h0, q1, q2⟩ := on_begin hN hh hx hm
  rw [q1, q2]
  exact ⟨h, n, hh, hn, h0, rfl, hx.2.1, rfl, rfl, hx.2.2.1, hx.2.2.2, hy, h1, ry, h2, rfl⟩
theorem wins_one {x y : SS} {h n h' n' : Int} (h1 : x.wh = h) (h2 : x.wn = n) (h3 : y.wh = h') (h4 : y.wn = n') (hf : x.first = !y.first) (hh : h = 0 ∨ h = 1 ∨ h = 2) (hh' : h' = 0 ∨ h' = 1 ∨ h' = 2) : x.wins (reqE h' n') = !y.wins (reqE h n) := by
  unfold SS.wins
  simp only [reqE, h1, h2, h3, h4]
  by_cases e : h = h'
  · subst e
    rw [if_neg (show ¬ (h ≠ h) from fun q => q rfl), if_neg (show ¬ (h ≠ h) from fun q => q rfl)]
    by_cases e2 : h = 0 ∧ n ≠ n'
    · rw [if_pos e2, if_pos ⟨e2.1, fun q => e2.2 q.symm⟩]
      by_cases e3 : n < n'
      · rw [decide_eq_true e3, decide_eq_false (by omega)]; rfl
      · rw [decide_eq_false e3, decide_eq_true (by omega)]; rfl
    · rw [if_neg e2, if_neg (fun q => e2 ⟨q.1, fun z => q.2 z.symm⟩), hf]
  · rw [if_pos e, if_pos (Ne.symm e)]
    rcases hh with rfl | rfl | rfl <;> rcases hh' with rfl | rfl | rfl <;> first | exact absurd rfl e | rfl | decide
/-- Both asked. -/
theorem JB.ask {N : Int} {x y : SS} {rx ry : List Ev} {h : Int} (hN : 0 ≤ N ∧ N ≤ 999999) (hh : h = 0 ∨ h = 1 ∨ h = 2) (hm : y.m ≤ 999999) (hf : x.first = !y.first) (j : JB N x y rx ry) :
    JC x (onS y (beginE h N)).1 (rx ++ downs (onS y (beginE h N)).2.1) ry ∨ JC (onS y (beginE h N)).1 x ry (rx ++ downs (onS y (beginE h N)).2.1) := by
  obtain ⟨hx, nx, ghx, gnx, g0, hw, hk, gwh, gwn, gr, gm, hy, hrx, ms, hms, rfl⟩ := j
  obtain ⟨n, hn, h0, q1, q2⟩ := on_begin hN hh hy hm
  rw [q1, q2]
  have W := wins_one (x := x) (y := { y with wt := true, wh := h, wn := n }) gwh gwn rfl rfl hf ghx hh
  cases hwin : x.wins (reqE h n)
  · -- y is ahead
    rw [hwin] at W
    refine .inr (.inl ⟨h, n, hh, hn, rfl, hy.2.1, fun e he => ?_, ⟨rx, hrx, rfl⟩, hk, fun h1 => by have := h0 h1; omega, fun _ => hwin⟩)
    rcases List.mem_append.mp he with he | he
    · exact (hms e he).harm
    · rw [List.mem_singleton.mp he]
      exact ⟨rfl, .inr ⟨rfl, by revert W; cases SS.wins { y with wt := true, wh := h, wn := n } (reqE hx nx) <;> simp⟩⟩
  · rw [hwin] at W
    refine .inl (.inl ⟨hx, nx, ghx, gnx, hw, hk, fun e he => ?_, ⟨ms, hms, rfl⟩, hy.2.1, fun h1 => by have := g0 h1; have := hy.2.2.1; have := hy.2.2.2; show y.r ≤ nx ∧ nx ≤ y.m; omega, fun _ => by revert W; cases SS.wins { y with wt := true, wh := h, wn := n } (reqE hx nx) <;> simp⟩)
    rcases List.mem_append.mp he with he | he
    · exact (hrx e he).harm
    · rw [List.mem_singleton.mp he]
      exact ⟨rfl, .inr ⟨rfl, hwin⟩⟩
theorem JC.done {x y : SS} {rx ry : List Ev} (h : JC x y rx ry) (h1 : rx = []) (h2 : ry = []) (h3 : x.kt = false) (h4 : y.kt = false) : x.m = y.m ∧ x.wt = false ∧ y.wt = false := by
  rcases h with ⟨h, n, _, _, _, _, _, ⟨ms, _, e⟩, _⟩ | ⟨_, _, _, _, _, e, _⟩ | ⟨h, n, _, _, _, _, ⟨ms, _, e⟩, _⟩ | ⟨_, _, g1, _, g2, _, g3⟩
  · rw [h2] at e; simp at e
  · rw [h4] at e; cases e
  · rw [h1] at e; simp at e
  · exact ⟨g3, g1, g2⟩
end Go.Proofs.Ytjgmlnkbplgloaa
