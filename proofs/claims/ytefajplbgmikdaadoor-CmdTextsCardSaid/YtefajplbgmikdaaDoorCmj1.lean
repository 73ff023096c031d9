/-
  The tokens of a script, in plain words: what lex.Cut tells. No model in this text.
-/
import Derived.Lib.ItoaMem
import Derived.Lib.ItoaLen
import Derived.RowKit
import Derived.Lib.Join
namespace Go.Proofs.YtefajplbgmikdaaDoor

/-- The kind of a byte (of a rune): 1 blank, 2 letter, 3 digit, 4 minus, 5 end of line, 0 another one. -/
def kd (c : Nat) : Nat :=
  if c = 32 ∨ c = 44 then 1 else if (97 ≤ c ∧ c ≤ 122) ∨ (65 ≤ c ∧ c ≤ 90) then 2 else if 48 ≤ c ∧ c ≤ 57 then 3 else if c = 45 then 4 else if c = 10 then 5 else 0
theorem kd_lt {c : Nat} (h : kd c ≠ 0) : c < 128 := by
  unfold kd at h
  (repeat' split at h) <;> first | omega | (exact absurd rfl h)
theorem kd_high {c : Nat} (h : 128 ≤ c) : kd c = 0 := by
  unfold kd
  (repeat' split) <;> first | omega | rfl

/-- How many bytes of a kind a text begins with. -/
def runL (k : Nat) : List UInt8 → Nat
  | [] => 0
  | c :: r => if kd c.toNat = k then runL k r + 1 else 0
theorem runL_le (k : Nat) : ∀ l, runL k l ≤ l.length
  | [] => Nat.le_refl _
  | c :: r => by
    unfold runL
    split
    · have := runL_le k r
      simp; omega
    · simp
theorem runL_get (k : Nat) : ∀ (l : List UInt8) (j : Nat) (h : j < l.length), j < runL k l → kd (l[j]'h).toNat = k
  | [], _, h, _ => absurd h (by simp)
  | c :: r, j, h, hj => by
    unfold runL at hj
    split at hj
    · cases j with
      | zero => simpa
      | succ j =>
        have := runL_get k r j (by simpa using h) (by omega)
        simpa using this
    · omega
theorem runL_pos {k : Nat} {c : UInt8} {r : List UInt8} (h : kd c.toNat = k) : runL k (c :: r) = runL k r + 1 := by rw [runL, if_pos h]
theorem kd_dig {c : Nat} (h : kd c = 3) : 48 ≤ c ∧ c ≤ 57 := by
  unfold kd at h
  (repeat' split at h) <;> first | omega | assumption
/-- The number of digits, saturated. -/
def numN (n : Nat) : List UInt8 → Nat
  | [] => n
  | c :: r => if (4611686018427387904 - (c.toNat - 48)) / 10 < n then 4611686018427387904 else numN (n * 10 + (c.toNat - 48)) r

/-- A token. -/
structure Tok where
  kind : Int
  s : List UInt8
  n : Int
  place : Int
deriving DecidableEq, Repr

/-- The tokens of what is left of a text, of which the byte i comes next, and what is cut ends at 'to'; or where it is wrong. -/
def cutL : List UInt8 → Nat → Nat → Except Nat (List Tok)
  | [], _, _ => .ok []
  | c :: r, i, to =>
    if i < to then cutL r (i + 1) to
    else if kd c.toNat = 1 then cutL r (i + 1) to
    else if kd c.toNat = 2 then (cutL r (i + 1) (i + runL 2 (c :: r))).map (⟨1, (c :: r).take (runL 2 (c :: r)), 0, i⟩ :: ·)
    else if kd c.toNat = 3 then (cutL r (i + 1) (i + runL 3 (c :: r))).map (⟨2, [], numN 0 ((c :: r).take (runL 3 (c :: r))), i⟩ :: ·)
    else if kd c.toNat = 4 then if runL 3 r = 0 then .error i else (cutL r (i + 1) (i + (runL 3 r + 1))).map (⟨2, [], -(numN 0 (r.take (runL 3 r)) : Int), i⟩ :: ·)
    else if kd c.toNat = 5 then (cutL r (i + 1) (i + 1)).map (⟨3, [], 0, i⟩ :: ·)
    else .error i
end Go.Proofs.YtefajplbgmikdaaDoor

/-
  The parts of a path, in plain words: what path.Parse and path.Text tell. No model in this text.
-/
namespace Go.Proofs.YtefajplbgmikdaaDoor

/-- What a letter has. -/
structure Rl where
  name : Nat
  count : Nat
  kind : Nat
deriving DecidableEq, Repr
def rulesL : List Rl := [⟨77, 2, 1⟩, ⟨76, 2, 2⟩, ⟨72, 1, 2⟩, ⟨86, 1, 2⟩, ⟨81, 4, 3⟩, ⟨67, 6, 4⟩, ⟨83, 4, 4⟩, ⟨84, 2, 3⟩, ⟨75, 5, 5⟩, ⟨90, 0, 6⟩]
def smallC (c : Nat) : Bool := decide (97 ≤ c ∧ c ≤ 122)
def upC (c : Nat) : Nat := if smallC c then c - 32 else c
def ruleOf (c : Nat) : Option Rl := rulesL.find? fun r => r.name == upC c
def ruleL : Rl := ⟨76, 2, 2⟩

/-- A letter with its numbers, once. -/
structure Part where
  r : Rl
  small : Bool
  place : Int
  nums : List Tok
deriving DecidableEq, Repr

def takeNums (en : Int) : Nat → List Tok → Except Int (List Tok × List Tok)
  | 0, l => .ok ([], l)
  | _ + 1, [] => .error en
  | n + 1, t :: l => if t.kind = 2 then (match takeNums en n l with | .ok (a, r) => .ok (t :: a, r) | .error e => .error e) else .error t.place
def onceS (en : Int) (x : Rl) (sm : Bool) (pl : Int) (l : List Tok) (ps : List Part) : Except Int (List Tok × List Part) :=
  match takeNums en x.count l with
  | .ok (a, r) => .ok (r, ps ++ [⟨x, sm, pl, a⟩])
  | .error e => .error e
def placeS (en : Int) : List Tok → Int
  | [] => en
  | t :: _ => t.place
def numS : List Tok → Bool
  | [] => false
  | t :: _ => decide (t.kind = 2)
def againS (en : Int) (x : Rl) (sm : Bool) : Nat → List Tok → List Part → Except Int (List Tok × List Part)
  | 0, l, ps => .ok (l, ps)
  | f + 1, l, ps =>
    if 0 < x.count ∧ numS l = true then
      match onceS en x sm (placeS en l) l ps with
      | .ok (l', ps') => againS en x sm f l' ps'
      | .error e => .error e
    else .ok (l, ps)
def lastKind (ps : List Part) : Nat := match ps.getLast? with | none => 0 | some p => p.r.kind
def letterS (en : Int) (c : Nat) (pl : Int) (more : Bool) (l : List Tok) (ps : List Part) : Except Int (List Tok × List Part) :=
  match ruleOf c with
  | none => .error pl
  | some x =>
    if (ps = [] ∧ x.kind ≠ 1) ∨ (x.kind = 6 ∧ lastKind ps = 6) then .error pl
    else if more = true ∧ 0 < x.count then .error (pl + 1)
    else match onceS en x (smallC c) pl l ps with
      | .ok (l', ps') => againS en (if x.kind = 1 then ruleL else x) (smallC c) l'.length l' ps'
      | .error e => .error e
def wordS (en : Int) : List UInt8 → Int → List Tok → List Part → Except Int (List Tok × List Part)
  | [], _, l, ps => .ok (l, ps)
  | c :: cs, pl, l, ps =>
    match letterS en c.toNat pl (!cs.isEmpty) l ps with
    | .ok (l', ps') => wordS en cs (pl + 1) l' ps'
    | .error e => .error e
def readS (en : Int) : Nat → List Tok → List Part → Except Int (List Part)
  | _, [], ps => .ok ps
  | 0, _ :: _, ps => .ok ps
  | f + 1, t :: l, ps =>
    if t.kind ≠ 1 then .error t.place
    else if t.s = [] then .error t.place
    else match wordS en t.s t.place l ps with
      | .ok (l', ps') => readS en f l' ps'
      | .error e => .error e
def readAll (en : Int) (l : List Tok) : Except Int (List Part) := if l = [] then .error en else readS en l.length l []

/-- A part of a path. -/
structure Sg where
  kind : Int
  v : List Int
  w : Int
deriving DecidableEq, Repr
structure Pen where
  x : Int
  y : Int
  fx : Int
  fy : Int
  last : Sg
deriving DecidableEq, Repr
def inR (v : Int) : Bool := decide (-2147483648 < v ∧ v < 2147483648)
def mirrorS (p : Pen) (k : Int) : Int × Int :=
  if p.last.kind ≠ k then (p.x, p.y)
  else if k = 4 then (2 * p.x - p.last.v.getD 2 0, 2 * p.y - p.last.v.getD 3 0)
  else (2 * p.x - p.last.v.getD 0 0, 2 * p.y - p.last.v.getD 1 0)
def absN (p : Pen) (x : Part) (i : Nat) (t : Tok) : Int := if x.small = true then (if i % 2 = 1 ∨ x.r.name = 86 then t.n + p.y else t.n + p.x) else t.n
def absL (p : Pen) (x : Part) : List Tok → Nat → Except Int (List Int)
  | [], _ => .ok []
  | t :: r, i =>
    if inR (absN p x i t) = true then match absL p x r (i + 1) with | .ok l => .ok (absN p x i t :: l) | .error e => .error e
    else .error t.place
def preS (p : Pen) (x : Part) : Except Int (List Int) :=
  if x.r.name = 83 ∨ x.r.name = 84 then
    (if inR (mirrorS p x.r.kind).1 = true ∧ inR (mirrorS p x.r.kind).2 = true then .ok [(mirrorS p x.r.kind).1, (mirrorS p x.r.kind).2] else .error x.place)
  else .ok []
def weightS (x : Part) : Except Int (Int × List Tok) :=
  if x.r.kind = 5 then match x.nums with
    | [] => .error 0
    | t :: r => if t.n < 1 ∨ 4096 < t.n then .error t.place else .ok (t.n, r)
  else .ok (0, x.nums)
def lineV (p : Pen) (x : Part) (v : List Int) : List Int := if x.r.name = 72 then [v.getD 0 0, p.y] else if x.r.name = 86 then [p.x, v.getD 0 0] else v
def moveS (p : Pen) (s : Sg) (n : Nat) : Pen :=
  let x := if s.kind = 6 then p.fx else s.v.getD (n - 2) 0
  let y := if s.kind = 6 then p.fy else s.v.getD (n - 1) 0
  ⟨x, y, if s.kind = 1 then x else p.fx, if s.kind = 1 then y else p.fy, s⟩
def segS (p : Pen) (x : Part) : Except Int (Sg × Pen) :=
  match preS p x with
  | .error e => .error e
  | .ok pr => match weightS x with
    | .error e => .error e
    | .ok (w, ns) => match absL p x ns 0 with
      | .error e => .error e
      | .ok vs =>
        let v := lineV p x (pr ++ vs)
        let s : Sg := ⟨x.r.kind, v ++ List.replicate (6 - v.length) 0, w⟩
        .ok (s, moveS p s v.length)
def pen0 : Pen := ⟨0, 0, 0, 0, ⟨0, [0, 0, 0, 0, 0, 0], 0⟩⟩
def segsS : List Part → Nat → Pen → Except (Int × Int) (List Sg)
  | [], _, _ => .ok []
  | x :: r, i, p =>
    if 4096 ≤ i then .error (x.place, 22)
    else match segS p x with
      | .error a => .error (a, 21)
      | .ok (s, p') => match segsS r (i + 1) p' with
        | .ok l => .ok (s :: l)
        | .error e => .error e
/-- The path of tokens, or what is wrong: the place, the error. -/
def parseS (l : List Tok) (en : Int) : Except (Int × Int) (List Sg) :=
  match readAll en l with
  | .error a => .error (a, 20)
  | .ok ps => segsS ps 0 pen0
/-- The path of a text, or what is wrong. -/
def ofS (s : List UInt8) : Except (Int × Int) (List Sg) :=
  match cutL s 0 0 with
  | .error i => .error (i, 20)
  | .ok l => parseS l s.length
end Go.Proofs.YtefajplbgmikdaaDoor

/-
  Plain facts on the reading of parts: how many there are, what is left.
-/
namespace Go.Proofs.YtefajplbgmikdaaDoor

def wt : List Tok → Nat
  | [] => 0
  | t :: l => wt l + t.s.length + 1
theorem wt_ge : ∀ l, l.length ≤ wt l
  | [] => Nat.le_refl _
  | t :: l => by have := wt_ge l; simp [wt]; omega
theorem take_wt {en : Int} : ∀ {n : Nat} {l a r : List Tok}, takeNums en n l = .ok (a, r) → wt r + n ≤ wt l ∧ r.length + n = l.length ∧ a.length = n ∧ l = a ++ r ∧ ∀ t ∈ a, t.kind = 2
  | 0, l, a, r, h => by
    simp only [takeNums, Except.ok.injEq, Prod.mk.injEq] at h
    obtain ⟨rfl, rfl⟩ := h
    simp
  | n + 1, [], a, r, h => by simp [takeNums] at h
  | n + 1, t :: l, a, r, h => by
    rw [takeNums] at h
    split at h
    · rename_i hk
      split at h
      · rename_i a' r' he
        simp only [Except.ok.injEq, Prod.mk.injEq] at h
        obtain ⟨rfl, rfl⟩ := h
        have := take_wt he
        refine ⟨by simp [wt]; omega, by simp; omega, by simp; omega, by simp [this.2.2.2.1], fun x hx => ?_⟩
        rcases List.mem_cons.1 hx with rfl | hx
        · exact hk
        · exact this.2.2.2.2 x hx
      · cases h
    · cases h
theorem once_wt {en : Int} {x : Rl} {sm : Bool} {pl : Int} {l l' : List Tok} {ps ps' : List Part} (h : onceS en x sm pl l ps = .ok (l', ps')) : wt l' + x.count ≤ wt l ∧ l'.length + x.count = l.length ∧ ps'.length = ps.length + 1 := by
  unfold onceS at h
  split at h
  · rename_i a r he
    simp only [Except.ok.injEq, Prod.mk.injEq] at h
    obtain ⟨rfl, rfl⟩ := h
    have := take_wt he
    exact ⟨this.1, this.2.1, by simp⟩
  · cases h
theorem again_wt {en : Int} {x : Rl} {sm : Bool} : ∀ {f : Nat} {l l' : List Tok} {ps ps' : List Part}, againS en x sm f l ps = .ok (l', ps') → ps'.length + wt l' ≤ ps.length + wt l ∧ l'.length ≤ l.length
  | 0, l, l', ps, ps', h => by
    simp only [againS, Except.ok.injEq, Prod.mk.injEq] at h
    obtain ⟨rfl, rfl⟩ := h
    exact ⟨Nat.le_refl _, Nat.le_refl _⟩
  | f + 1, l, l', ps, ps', h => by
    rw [againS] at h
    split at h
    · rename_i hc
      split at h
      · rename_i l2 ps2 he
        have h1 := once_wt he
        have h2 := again_wt h
        omega
      · cases h
    · simp only [Except.ok.injEq, Prod.mk.injEq] at h
      obtain ⟨rfl, rfl⟩ := h
      exact ⟨Nat.le_refl _, Nat.le_refl _⟩
theorem letter_wt {en : Int} {c : Nat} {pl : Int} {more : Bool} {l l' : List Tok} {ps ps' : List Part} (h : letterS en c pl more l ps = .ok (l', ps')) : ps'.length + wt l' ≤ ps.length + wt l + 1 ∧ l'.length ≤ l.length := by
  unfold letterS at h
  split at h
  · cases h
  · split at h
    · cases h
    · split at h
      · cases h
      · split at h
        · rename_i l2 ps2 he
          have h1 := once_wt he
          have h2 := again_wt h
          omega
        · cases h
theorem word_wt {en : Int} : ∀ {s : List UInt8} {pl : Int} {l l' : List Tok} {ps ps' : List Part}, wordS en s pl l ps = .ok (l', ps') → ps'.length + wt l' ≤ ps.length + wt l + s.length ∧ l'.length ≤ l.length
  | [], pl, l, l', ps, ps', h => by
    simp only [wordS, Except.ok.injEq, Prod.mk.injEq] at h
    obtain ⟨rfl, rfl⟩ := h
    simp
  | c :: cs, pl, l, l', ps, ps', h => by
    rw [wordS] at h
    split at h
    · rename_i l2 ps2 he
      have h1 := letter_wt he
      have h2 := word_wt h
      simp; omega
    · cases h
/-- What holds of all tokens holds of what is left. -/
theorem take_all {en : Int} {p : Tok → Prop} {n : Nat} {l a r : List Tok} (h : takeNums en n l = .ok (a, r)) (hp : ∀ t ∈ l, p t) : (∀ t ∈ a, p t) ∧ ∀ t ∈ r, p t := by
  obtain ⟨_, _, _, rfl, _⟩ := take_wt h
  exact ⟨fun t ht => hp t (by simp [ht]), fun t ht => hp t (by simp [ht])⟩

/-- What every part is. -/
def PartOk (p : Tok → Prop) (x : Part) : Prop := x.r ∈ rulesL ∧ x.nums.length = x.r.count ∧ ∀ t ∈ x.nums, t.kind = 2 ∧ p t
theorem once_ok {en : Int} {p : Tok → Prop} {x : Rl} {sm : Bool} {pl : Int} {l l' : List Tok} {ps ps' : List Part} (hx : x ∈ rulesL) (h : onceS en x sm pl l ps = .ok (l', ps')) (hl : ∀ t ∈ l, p t) (hps : ∀ y ∈ ps, PartOk p y) :
    (∀ t ∈ l', p t) ∧ ∀ y ∈ ps', PartOk p y := by
  unfold onceS at h
  split at h
  · rename_i a r he
    simp only [Except.ok.injEq, Prod.mk.injEq] at h
    obtain ⟨rfl, rfl⟩ := h
    have h1 := take_wt he
    have h2 := take_all he hl
    refine ⟨h2.2, fun y hy => ?_⟩
    rcases List.mem_append.1 hy with hy | hy
    · exact hps y hy
    · rw [List.mem_singleton.1 hy]
      exact ⟨hx, h1.2.2.1, fun t ht => ⟨h1.2.2.2.2 t ht, h2.1 t ht⟩⟩
  · cases h
theorem again_ok {en : Int} {p : Tok → Prop} {x : Rl} {sm : Bool} (hx : x ∈ rulesL) : ∀ {f : Nat} {l l' : List Tok} {ps ps' : List Part}, againS en x sm f l ps = .ok (l', ps') → (∀ t ∈ l, p t) → (∀ y ∈ ps, PartOk p y) →
    (∀ t ∈ l', p t) ∧ ∀ y ∈ ps', PartOk p y
  | 0, l, l', ps, ps', h, h1, h2 => by
    simp only [againS, Except.ok.injEq, Prod.mk.injEq] at h
    obtain ⟨rfl, rfl⟩ := h
    exact ⟨h1, h2⟩
  | f + 1, l, l', ps, ps', h, h1, h2 => by
    rw [againS] at h
    split at h
    · split at h
      · rename_i l2 ps2 he
        have h3 := once_ok hx he h1 h2
        exact again_ok hx h h3.1 h3.2
      · cases h
    · simp only [Except.ok.injEq, Prod.mk.injEq] at h
      obtain ⟨rfl, rfl⟩ := h
      exact ⟨h1, h2⟩
theorem letter_ok {en : Int} {p : Tok → Prop} {c : Nat} {pl : Int} {more : Bool} {l l' : List Tok} {ps ps' : List Part} (h : letterS en c pl more l ps = .ok (l', ps')) (h1 : ∀ t ∈ l, p t) (h2 : ∀ y ∈ ps, PartOk p y) :
    (∀ t ∈ l', p t) ∧ ∀ y ∈ ps', PartOk p y := by
  unfold letterS at h
  split at h
  · cases h
  · rename_i x hx
    have hm : x ∈ rulesL := List.mem_of_find?_eq_some hx
    split at h
    · cases h
    · split at h
      · cases h
      · split at h
        · rename_i l2 ps2 he
          have h3 := once_ok hm he h1 h2
          refine again_ok ?_ h h3.1 h3.2
          split
          · decide
          · exact hm
        · cases h
theorem once_toks {en : Int} {p : Tok → Prop} {x : Rl} {sm : Bool} {pl : Int} {l l' : List Tok} {ps ps' : List Part} (h : onceS en x sm pl l ps = .ok (l', ps')) (hl : ∀ t ∈ l, p t) : ∀ t ∈ l', p t := by
  unfold onceS at h
  split at h
  · rename_i a r he
    simp only [Except.ok.injEq, Prod.mk.injEq] at h
    obtain ⟨rfl, rfl⟩ := h
    exact (take_all he hl).2
  · cases h
theorem again_toks {en : Int} {p : Tok → Prop} {x : Rl} {sm : Bool} : ∀ {f : Nat} {l l' : List Tok} {ps ps' : List Part}, againS en x sm f l ps = .ok (l', ps') → (∀ t ∈ l, p t) → ∀ t ∈ l', p t
  | 0, l, l', ps, ps', h, h1 => by
    simp only [againS, Except.ok.injEq, Prod.mk.injEq] at h
    obtain ⟨rfl, rfl⟩ := h
    exact h1
  | f + 1, l, l', ps, ps', h, h1 => by
    rw [againS] at h
    split at h
    · split at h
      · rename_i l2 ps2 he
        exact again_toks h (once_toks he h1)
      · cases h
    · simp only [Except.ok.injEq, Prod.mk.injEq] at h
      obtain ⟨rfl, rfl⟩ := h
      exact h1
theorem letter_toks {en : Int} {p : Tok → Prop} {c : Nat} {pl : Int} {more : Bool} {l l' : List Tok} {ps ps' : List Part} (h : letterS en c pl more l ps = .ok (l', ps')) (h1 : ∀ t ∈ l, p t) : ∀ t ∈ l', p t := by
  unfold letterS at h
  split at h
  · cases h
  · split at h
    · cases h
    · split at h
      · cases h
      · split at h
        · rename_i l2 ps2 he
          exact again_toks h (once_toks he h1)
        · cases h
theorem word_ok {en : Int} {p : Tok → Prop} : ∀ {s : List UInt8} {pl : Int} {l l' : List Tok} {ps ps' : List Part}, wordS en s pl l ps = .ok (l', ps') → (∀ t ∈ l, p t) → (∀ y ∈ ps, PartOk p y) → (∀ t ∈ l', p t) ∧ ∀ y ∈ ps', PartOk p y
  | [], pl, l, l', ps, ps', h, h1, h2 => by
    simp only [wordS, Except.ok.injEq, Prod.mk.injEq] at h
    obtain ⟨rfl, rfl⟩ := h
    exact ⟨h1, h2⟩
  | c :: cs, pl, l, l', ps, ps', h, h1, h2 => by
    rw [wordS] at h
    split at h
    · rename_i l2 ps2 he
      have h3 := letter_ok he h1 h2
      exact word_ok h h3.1 h3.2
    · cases h
theorem read_ok {en : Int} {p : Tok → Prop} : ∀ {f : Nat} {l : List Tok} {ps ps' : List Part}, readS en f l ps = .ok ps' → (∀ t ∈ l, p t) → (∀ y ∈ ps, PartOk p y) → ∀ y ∈ ps', PartOk p y
  | f, [], ps, ps', h, h1, h2 => by
    have : readS en f [] ps = .ok ps := by cases f <;> rfl
    rw [this] at h
    simp only [Except.ok.injEq] at h
    subst h
    exact h2
  | 0, _ :: _, ps, ps', h, h1, h2 => by
    simp only [readS, Except.ok.injEq] at h
    subst h
    exact h2
  | f + 1, t :: l, ps, ps', h, h1, h2 => by
    rw [readS] at h
    split at h
    · cases h
    · split at h
      · cases h
      · split at h
        · rename_i l2 ps2 he
          have h3 := word_ok he (fun t ht => h1 t (by simp [ht])) h2
          exact read_ok h h3.1 h3.2
        · cases h
end Go.Proofs.YtefajplbgmikdaaDoor

/-
  The text of a path in plain words, whether a path is good; a text of pieces and its tokens. No model in this text.
-/
namespace Go.Proofs.YtefajplbgmikdaaDoor
open Go.Lib

/-- How many numbers a kind has. -/
def countK (k : Int) : Nat := if k = 1 then 2 else if k = 2 then 2 else if k = 3 then 4 else if k = 4 then 6 else if k = 5 then 4 else 0
def goodN (c : Nat) : List Int → Nat → Bool
  | [], _ => true
  | v :: r, i => inR v && (decide (v = 0) || decide (i < c)) && goodN c r (i + 1)
def goodW (s : Sg) : Bool := if s.kind = 5 then decide (1 ≤ s.w) && decide (s.w ≤ 4096) else decide (s.w = 0)
def goodOne (s : Sg) : Bool := decide (1 ≤ s.kind) && decide (s.kind ≤ 6) && goodN (countK s.kind) s.v 0 && goodW s
def noTwo : List Sg → Bool
  | [] => true
  | [_] => true
  | a :: b :: r => !(decide (a.kind = 6) && decide (b.kind = 6)) && noTwo (b :: r)
def headOk : List Sg → Bool
  | [] => false
  | s :: _ => decide (s.kind = 1)
def goodS (l : List Sg) : Bool := headOk l && decide (l.length ≤ 4096) && l.all goodOne && noTwo l
def letterB (k : Int) : UInt8 := if k = 1 then 77 else if k = 2 then 76 else if k = 3 then 81 else if k = 4 then 67 else if k = 5 then 75 else 90
def numsOf (s : Sg) : List Int := (if s.kind = 5 then [s.w] else []) ++ s.v.take (countK s.kind)
def wordsOf (s : Sg) : List (List UInt8) := [letterB s.kind] :: (numsOf s).map itoa
def wordsS (l : List Sg) : List (List UInt8) := l.flatMap wordsOf
def textS (l : List Sg) : List UInt8 := Lib.join (wordsS l) [32]

/-- A piece of a text: letters, a number, a blank. -/
inductive Pc where
  | w (l : List UInt8)
  | n (n : Int)
  | b (c : UInt8)
def pcB : Pc → List UInt8
  | .w l => l
  | .n n => itoa n
  | .b c => [c]
def render (ps : List Pc) : List UInt8 := ps.flatMap pcB
def pcT : Pc → Nat → List Tok
  | .w l, i => [⟨1, l, 0, i⟩]
  | .n n, i => [⟨2, [], n, i⟩]
  | .b _, _ => []
def toksP : List Pc → Nat → List Tok
  | [], _ => []
  | p :: r, i => pcT p i ++ toksP r (i + (pcB p).length)
def isN : List Pc → Bool
  | .n _ :: _ => true
  | _ => false
def isW : List Pc → Bool
  | .w _ :: _ => true
  | _ => false
/-- The pieces can be told apart. -/
def pcOk : List Pc → Prop
  | [] => True
  | .w l :: r => (l ≠ [] ∧ ∀ c ∈ l, kd c.toNat = 2) ∧ isW r = false ∧ pcOk r
  | .n n :: r => n.natAbs < 4611686018427387904 ∧ isN r = false ∧ pcOk r
  | .b c :: r => kd c.toNat = 1 ∧ pcOk r

theorem runL_app {k : Nat} : ∀ (a r : List UInt8), (∀ c ∈ a, kd c.toNat = k) → runL k r = 0 → runL k (a ++ r) = a.length
  | [], r, _, h => by simpa using h
  | c :: a, r, h1, h2 => by
    rw [List.cons_append, runL_pos (h1 c (by simp)), runL_app a r (fun x hx => h1 x (by simp [hx])) h2]
    simp
theorem cutT_skip : ∀ (a r : List UInt8) (i to : Nat), i + a.length ≤ to → cutL (a ++ r) i to = cutL r (i + a.length) to
  | [], r, i, to, h => by simp
  | c :: a, r, i, to, h => by
    have h' : i + 1 + a.length ≤ to := by simp at h; omega
    rw [List.cons_append, cutL, if_pos (by omega), cutT_skip a r (i + 1) to h']
    simp; congr 1; omega
theorem cut_to : ∀ (r : List UInt8) (i to : Nat), to ≤ i → cutL r i to = cutL r i 0
  | [], i, to, h => rfl
  | c :: r, i, to, h => by
    rw [cutL]
    conv => rhs; rw [cutL]
    rw [if_neg (show ¬ i < to by omega), if_neg (show ¬ i < 0 by omega)]
    by_cases h1 : kd c.toNat = 1
    · rw [if_pos h1, if_pos h1, cut_to r (i + 1) to (by omega)]
    · rw [if_neg h1, if_neg h1]
theorem digit_kd {c : UInt8} (h : 48 ≤ c.toNat ∧ c.toNat ≤ 57) : kd c.toNat = 3 := by
  unfold kd
  rw [if_neg (by omega), if_neg (by omega), if_pos (by omega)]
theorem dec_digit : ∀ u, ∀ c ∈ decDigits u, 48 ≤ c.toNat ∧ c.toNat ≤ 57 := by
  intro u
  induction u using Nat.strongRecOn with
  | _ u ih =>
    intro c hc
    rw [decDigits] at hc
    split at hc
    · rename_i h
      simp only [List.mem_singleton] at hc
      subst hc
      simp; omega
    · rename_i h
      rcases List.mem_append.1 hc with hc | hc
      · exact ih (u / 10) (by omega) c hc
      · simp only [List.mem_singleton] at hc
        subst hc
        simp; omega
theorem numN_snoc : ∀ (l : List UInt8) (n : Nat) (c : UInt8), numN n l * 10 + (c.toNat - 48) < 4611686018427387904 → 48 ≤ c.toNat ∧ c.toNat ≤ 57 → (numN n l ≠ 4611686018427387904) → numN n (l ++ [c]) = numN n l * 10 + (c.toNat - 48)
  | [], n, c, h, hc, _ => by
    simp only [List.nil_append, numN] at h ⊢
    rw [if_neg (by omega)]
  | x :: l, n, c, h, hc, h2 => by
    rw [List.cons_append, numN]
    rw [numN] at h h2
    rw [numN]
    split
    · rename_i hx
      rw [if_pos hx] at h2
      exact absurd rfl h2
    · rename_i hx
      rw [if_neg hx] at h h2
      exact numN_snoc l _ c h hc h2
theorem numN_dec : ∀ u, u < 4611686018427387904 → numN 0 (decDigits u) = u := by
  intro u
  induction u using Nat.strongRecOn with
  | _ u ih =>
    intro hu
    rw [decDigits]
    split
    · rename_i h
      simp only [numN]
      rw [if_neg (by omega)]
      simp; omega
    · rename_i h
      have hi := ih (u / 10) (by omega) (by omega)
      have hm : (UInt8.ofNat (48 + u % 10)).toNat = 48 + u % 10 := by simp; omega
      rw [numN_snoc _ _ _ (by rw [hi, hm]; omega) (by rw [hm]; omega) (by rw [hi]; omega), hi, hm]
      omega
theorem decD_ne (u : Nat) : decDigits u ≠ [] := by
  intro h
  have h1 := decDigits_length u
  have h2 := nDigits_pos u
  rw [h, List.length_nil] at h1
  omega
theorem run_next {r : List Pc} {k : Nat} (hk : (k = 3 ∧ isN r = false) ∨ (k = 2 ∧ isW r = false)) (h : pcOk r) : runL k (render r) = 0 := by
  cases r with
  | nil => rfl
  | cons p r =>
    cases p with
    | w l =>
      rcases hk with ⟨rfl, _⟩ | ⟨rfl, h2⟩
      · obtain ⟨⟨hne, hl⟩, _⟩ := h
        cases l with
        | nil => exact absurd rfl hne
        | cons c l =>
          simp only [render, List.flatMap_cons, pcB, List.cons_append, runL]
          rw [if_neg (by rw [hl c (by simp)]; decide)]
      · cases h2
    | n n =>
      rcases hk with ⟨rfl, h2⟩ | ⟨rfl, _⟩
      · cases h2
      · simp only [render, List.flatMap_cons, pcB]
        unfold itoa
        split
        · simp only [List.cons_append, runL]
          rw [if_neg (by decide)]
        · cases hd : decDigits n.toNat with
          | nil => exact absurd hd (decD_ne _)
          | cons c l =>
            simp only [List.cons_append, runL]
            rw [if_neg (by rw [digit_kd (dec_digit n.toNat c (by rw [hd]; simp))]; decide)]
    | b c =>
      simp only [render, List.flatMap_cons, pcB, List.cons_append, List.nil_append, runL]
      rw [if_neg (by rw [h.1]; omega)]
/-- The tokens of pieces. -/
theorem cut_pieces : ∀ (ps : List Pc) (i : Nat), pcOk ps → cutL (render ps) i 0 = .ok (toksP ps i)
  | [], i, _ => rfl
  | .b c :: r, i, h => by
    have hr : render (.b c :: r) = c :: render r := rfl
    rw [hr, cutL, if_neg (by omega), if_pos h.1, cut_pieces r (i + 1) h.2]
    rfl
  | .w l :: r, i, h => by
    obtain ⟨⟨hne, hl⟩, hw, hr⟩ := h
    cases l with
    | nil => exact absurd rfl hne
    | cons c l =>
      have he : render (.w (c :: l) :: r) = c :: (l ++ render r) := rfl
      have hrun : runL 2 (c :: (l ++ render r)) = l.length + 1 := by
        rw [← List.cons_append, runL_app (c :: l) (render r) hl (run_next (.inr ⟨rfl, hw⟩) hr)]
        rfl
      have hk : kd c.toNat = 2 := hl c (by simp)
      rw [he, cutL, if_neg (by omega), if_neg (by rw [hk]; decide), if_pos hk, hrun, cutT_skip l (render r) (i + 1) _ (by omega), cut_to _ _ _ (by omega), cut_pieces r _ hr]
      have ht : (c :: (l ++ render r)).take (l.length + 1) = c :: l := by simp
      rw [ht]
      simp only [toksP, pcT, pcB, Except.map, List.singleton_append, List.length_cons]
      rw [show i + 1 + l.length = i + (l.length + 1) by omega]
  | .n n :: r, i, h => by
    obtain ⟨hn, hd, hr⟩ := h
    have h3 := run_next (.inl ⟨rfl, hd⟩) hr
    have he : render (.n n :: r) = itoa n ++ render r := rfl
    rw [he]
    simp only [toksP, pcT, pcB, List.singleton_append]
    by_cases hneg : n < 0
    · have hi : itoa n = 45 :: decDigits n.natAbs := by unfold itoa; rw [if_pos hneg]
      rw [hi, List.cons_append]
      have hrun : runL 3 (decDigits n.natAbs ++ render r) = (decDigits n.natAbs).length := runL_app _ _ (fun c hc => digit_kd (dec_digit _ c hc)) h3
      have hpos : (decDigits n.natAbs).length ≠ 0 := fun e => decD_ne _ (List.eq_nil_of_length_eq_zero e)
      rw [cutL, if_neg (by omega), if_neg (by decide), if_neg (by decide), if_neg (by decide), if_pos (by decide), hrun, if_neg hpos, cutT_skip _ _ _ _ (by omega), cut_to _ _ _ (by omega), cut_pieces r _ hr]
      have ht : (decDigits n.natAbs ++ render r).take (decDigits n.natAbs).length = decDigits n.natAbs := by simp
      rw [ht, numN_dec _ hn]
      simp only [Except.map, List.length_cons]
      rw [show i + 1 + (decDigits n.natAbs).length = i + ((decDigits n.natAbs).length + 1) by omega, show -(n.natAbs : Int) = n by omega]
    · have hi : itoa n = decDigits n.toNat := by unfold itoa; rw [if_neg hneg]
      rw [hi]
      cases hdd : decDigits n.toNat with
      | nil => exact absurd hdd (decD_ne _)
      | cons c l =>
        have hall : ∀ x ∈ (c :: l), kd x.toNat = 3 := fun x hx => digit_kd (dec_digit n.toNat x (by rw [hdd]; exact hx))
        have hrun : runL 3 (c :: (l ++ render r)) = l.length + 1 := by
          rw [← List.cons_append, runL_app (c :: l) (render r) hall h3]
          rfl
        have hk := hall c (by simp)
        rw [List.cons_append, cutL, if_neg (by omega), if_neg (by rw [hk]; decide), if_neg (by rw [hk]; decide), if_pos hk, hrun, cutT_skip l (render r) (i + 1) _ (by omega), cut_to _ _ _ (by omega), cut_pieces r _ hr]
        have ht : (c :: (l ++ render r)).take (l.length + 1) = decDigits n.toNat := by rw [hdd]; simp
        rw [ht, numN_dec _ (by omega)]
        simp only [Except.map, List.length_cons]
        rw [show i + 1 + l.length = i + (l.length + 1) by omega, show ((n.toNat : Nat) : Int) = n by omega]
end Go.Proofs.YtefajplbgmikdaaDoor

/-
  What is read out of a text of letters and numbers, letter by letter. No model in this text.
-/
namespace Go.Proofs.YtefajplbgmikdaaDoor
open Go.Lib

/-- A letter with its numbers. -/
structure It where
  c : UInt8
  r : Rl
  ns : List Int
def itE (x : It) : Rl × Bool × List Int := (x.r, smallC x.c.toNat, x.ns)
def partE (p : Part) : Rl × Bool × List Int := (p.r, p.small, p.nums.map Tok.n)
def er (t : Tok) : Int × List UInt8 × Int := (t.kind, t.s, t.n)
def numE (n : Int) : Int × List UInt8 × Int := (2, [], n)
/-- The tokens of letters with their numbers, but for their places; mg: letters without numbers stand in one word with the next one. -/
def shapeI (mg : Bool) : List It → List UInt8 → List (Int × List UInt8 × Int)
  | [], pre => if pre = [] then [] else [(1, pre, 0)]
  | x :: r, pre => if mg = true ∧ x.ns = [] then shapeI mg r (pre ++ [x.c]) else (1, pre ++ [x.c], 0) :: (x.ns.map numE ++ shapeI mg r [])
def okIt (x : It) : Prop := ruleOf x.c.toNat = some x.r ∧ x.r.count = x.ns.length
def okSeq : Nat → List Rl → Prop
  | _, [] => True
  | k, r :: rs => (k = 0 → r.kind = 1) ∧ ¬ (r.kind = 6 ∧ k = 6) ∧ 0 < r.kind ∧ okSeq r.kind rs

theorem take_app {en : Int} : ∀ (a r : List Tok), (∀ t ∈ a, t.kind = 2) → takeNums en a.length (a ++ r) = .ok (a, r)
  | [], r, _ => by simp [takeNums]
  | t :: a, r, h => by
    rw [List.length_cons, List.cons_append, takeNums, if_pos (h t (by simp)), take_app a r (fun x hx => h x (by simp [hx]))]
theorem again_stop {en : Int} {x : Rl} {sm : Bool} {f : Nat} {l : List Tok} {ps : List Part} (h : numS l = false) : againS en x sm f l ps = .ok (l, ps) := by
  cases f with
  | zero => rfl
  | succ f => rw [againS, if_neg (by simp [h])]
theorem last_snoc (ps : List Part) (p : Part) : lastKind (ps ++ [p]) = p.r.kind := by simp [lastKind]
theorem letter_item {en : Int} {c : Nat} {x : Rl} {pl : Int} {more : Bool} {a rest : List Tok} {ps : List Part} (hr : ruleOf c = some x) (ha : a.length = x.count) (hk : ∀ t ∈ a, t.kind = 2) (hn : x.count = 0 ∨ numS rest = false)
    (h0 : ps = [] → x.kind = 1) (h6 : ¬ (x.kind = 6 ∧ lastKind ps = 6)) (hm : ¬ (more = true ∧ 0 < x.count)) (hc1 : x.kind = 1 → x.count ≠ 0) : letterS en c pl more (a ++ rest) ps = .ok (rest, ps ++ [⟨x, smallC c, pl, a⟩]) := by
  unfold letterS
  rw [hr]
  simp only
  rw [if_neg (fun h => h.elim (fun h => h.2 (h0 h.1)) h6), if_neg hm]
  unfold onceS
  rw [← ha, take_app a rest hk]
  simp only
  rcases hn with hn | hn
  · have hz : ∀ f l ps, againS en (if x.kind = 1 then ruleL else x) (smallC c) f l ps = .ok (l, ps) := by
      intro f l ps
      cases f with
      | zero => rfl
      | succ f =>
        rw [againS, if_neg]
        rw [if_neg (fun h => hc1 h hn)]
        omega
    exact hz _ _ _
  · exact again_stop hn
theorem num_shape {mg : Bool} : ∀ {xs : List It} {pre : List UInt8} {ts : List Tok}, ts.map er = shapeI mg xs pre → numS ts = false
  | [], pre, ts, h => by
    unfold shapeI at h
    split at h
    · cases ts with
      | nil => rfl
      | cons t ts => simp at h
    · cases ts with
      | nil => rfl
      | cons t ts =>
        simp only [List.map_cons, List.cons.injEq, er, Prod.mk.injEq] at h
        simp [numS, h.1.1]
  | x :: xs, pre, ts, h => by
    rw [shapeI] at h
    split at h
    · exact num_shape h
    · cases ts with
      | nil => rfl
      | cons t ts =>
        simp only [List.map_cons, List.cons.injEq, er, Prod.mk.injEq] at h
        simp [numS, h.1.1]
/-- A word of letters, of which the last alone may have numbers. -/
theorem word_items {en : Int} : ∀ (zs : List It) (x : It) (pl : Int) (a rest : List Tok) (ps : List Part), (∀ z ∈ zs, okIt z ∧ z.ns = []) → okIt x → a.map Tok.n = x.ns → (∀ t ∈ a, t.kind = 2) → (x.ns = [] ∨ numS rest = false) →
    okSeq (lastKind ps) ((zs ++ [x]).map (·.r)) → (∀ y ∈ zs ++ [x], y.r.kind = 1 → y.r.count ≠ 0) → (∀ p ∈ ps, 0 < p.r.kind) →
    ∃ ps', wordS en (zs.map (·.c) ++ [x.c]) pl (a ++ rest) ps = .ok (rest, ps ++ ps') ∧ ps'.map partE = (zs ++ [x]).map itE
  | [], x, pl, a, rest, ps, _, hx, ha, hk, hn, hs, hc1, hpos => by
    have hl : a.length = x.r.count := by rw [hx.2, ← ha]; simp
    have hs' : (lastKind ps = 0 → x.r.kind = 1) ∧ ¬ (x.r.kind = 6 ∧ lastKind ps = 6) ∧ 0 < x.r.kind ∧ True := hs
    refine ⟨[⟨x.r, smallC x.c.toNat, pl, a⟩], ?_, by simp [partE, itE, ha]⟩
    simp only [List.map_nil, List.nil_append, wordS, List.isEmpty_nil, Bool.not_true]
    rw [letter_item hx.1 hl hk (hn.imp (fun h => by rw [hx.2, h]; rfl) id) (fun h => hs'.1 (by rw [h]; rfl)) hs'.2.1 (by simp) (hc1 x (by simp))]
    
  | z :: zs, x, pl, a, rest, ps, hz, hx, ha, hk, hn, hs, hc1, hpos => by
    have hz0 := hz z (by simp)
    have hs' : (lastKind ps = 0 → z.r.kind = 1) ∧ ¬ (z.r.kind = 6 ∧ lastKind ps = 6) ∧ 0 < z.r.kind ∧ okSeq z.r.kind ((zs ++ [x]).map (·.r)) := hs
    have hcz : z.r.count = 0 := by rw [hz0.1.2, hz0.2]; rfl
    obtain ⟨ps', h1, h2⟩ := word_items zs x (pl + 1) a rest (ps ++ [⟨z.r, smallC z.c.toNat, pl, []⟩]) (fun y hy => hz y (by simp [hy])) hx ha hk hn (by rw [last_snoc]; exact hs'.2.2.2) (fun y hy => hc1 y (List.mem_cons_of_mem _ hy)) (fun p hp => by
      rcases List.mem_append.1 hp with hp | hp
      · exact hpos p hp
      · rw [List.mem_singleton.1 hp]; exact hs'.2.2.1)
    refine ⟨⟨z.r, smallC z.c.toNat, pl, []⟩ :: ps', ?_, by simp [partE, itE, hz0.2] at h2 ⊢; exact h2⟩
    simp only [List.map_cons, List.cons_append, wordS]
    rw [show a ++ rest = [] ++ (a ++ rest) from rfl, letter_item hz0.1.1 (by simp [hcz]) (by simp) (.inl hcz) (fun h => hs'.1 (by rw [h]; rfl)) hs'.2.1 (by rw [hcz]; simp) (hc1 z (by simp))]
    simp only
    rw [h1]
    simp
theorem split_map {α β : Type} {f : α → β} : ∀ {l : List α} {a b : List β}, l.map f = a ++ b → ∃ x y, l = x ++ y ∧ x.map f = a ∧ y.map f = b := by
  intro l a b h
  exact List.map_eq_append_iff.1 h
theorem num_toks : ∀ {a : List Tok} {ns : List Int}, a.map er = ns.map numE → a.map Tok.n = ns ∧ ∀ t ∈ a, t.kind = 2
  | [], [], _ => ⟨rfl, by simp⟩
  | [], _ :: _, h => by simp at h
  | _ :: _, [], h => by simp at h
  | t :: a, n :: ns, h => by
    simp only [List.map_cons, List.cons.injEq, er, numE, Prod.mk.injEq] at h
    have := num_toks h.2
    refine ⟨by simp [h.1.2.2, this.1], fun x hx => ?_⟩
    rcases List.mem_cons.1 hx with rfl | hx
    · exact h.1.1
    · exact this.2 x hx
theorem okSeq_app : ∀ {a b : List Rl} {k : Nat}, okSeq k (a ++ b) → okSeq k a ∧ okSeq ((a.getLast?.map (·.kind)).getD k) b
  | [], b, k, h => ⟨trivial, h⟩
  | r :: a, b, k, h => by
    have h' : (k = 0 → r.kind = 1) ∧ ¬ (r.kind = 6 ∧ k = 6) ∧ 0 < r.kind ∧ okSeq r.kind (a ++ b) := h
    have := okSeq_app h'.2.2.2
    refine ⟨⟨h'.1, h'.2.1, h'.2.2.1, this.1⟩, ?_⟩
    have h2 := this.2
    cases a with
    | nil => simpa using h2
    | cons c a =>
      rw [List.getLast?_cons_cons]
      rw [List.getLast?_eq_some_getLast (by simp : (c :: a) ≠ [])] at h2 ⊢
      exact h2
theorem lastKind_map {ps' : List Part} {ys : List It} (ps : List Part) (h : ps'.map partE = ys.map itE) : lastKind (ps ++ ps') = ((ys.map (·.r)).getLast?.map (·.kind)).getD (lastKind ps) := by
  have h1 : ps'.map (·.r) = ys.map (·.r) := by
    have := congrArg (List.map Prod.fst) h
    simpa [partE, itE, Function.comp_def] using this
  rcases List.eq_nil_or_concat ps' with rfl | ⟨q, p, rfl⟩
  · have : ys = [] := by simpa using h1.symm
    subst this
    simp
  · rcases List.eq_nil_or_concat ys with rfl | ⟨y, z, rfl⟩
    · simp at h1
    · have h2 : p.r = z.r := by
        have := congrArg List.getLast? h1
        simpa using this
      simp only [List.concat_eq_append, ← List.append_assoc, last_snoc]
      simp [h2]
/-- All parts of such tokens. -/
theorem read_items {en : Int} {mg : Bool} : ∀ (xs zs : List It) (f : Nat) (ts : List Tok) (ps : List Part), ts.map er = shapeI mg xs (zs.map (·.c)) → ts.length ≤ f → (∀ z ∈ zs, okIt z ∧ z.ns = []) → (∀ x ∈ xs, okIt x) →
    okSeq (lastKind ps) ((zs ++ xs).map (·.r)) → (∀ y ∈ zs ++ xs, y.r.kind = 1 → y.r.count ≠ 0) → (∀ p ∈ ps, 0 < p.r.kind) →
    ∃ ps', readS en f ts ps = .ok (ps ++ ps') ∧ ps'.map partE = (zs ++ xs).map itE
  | [], zs, f, ts, ps, h, hf, hz, hx, hs, hc1, hpos => by
    unfold shapeI at h
    split at h
    · rename_i hz0
      have : zs = [] := by simpa using hz0
      subst this
      have : ts = [] := by simpa using h
      subst this
      refine ⟨[], ?_, rfl⟩
      cases f <;> simp [readS]
    · rename_i hz0
      cases ts with
      | nil => simp at h
      | cons t ts =>
        simp only [List.map_cons, List.cons.injEq, er, Prod.mk.injEq, List.map_eq_nil_iff] at h
        obtain ⟨⟨hk, hts, hn⟩, rfl⟩ := h
        rcases List.eq_nil_or_concat zs with rfl | ⟨ys, y, rfl⟩
        · exact absurd rfl hz0
        · simp only [List.concat_eq_append] at *
          have hy := hz y (by simp)
          obtain ⟨ps', h1, h2⟩ := word_items (en := en) ys y t.place [] [] ps (fun z hz' => hz z (by simp [hz'])) hy.1 (by rw [hy.2]; rfl) (by simp) (.inl hy.2) (by simpa using hs) (by simpa using hc1) hpos
          refine ⟨ps', ?_, by simpa using h2⟩
          obtain ⟨f, rfl⟩ : ∃ g, f = g + 1 := ⟨f - 1, by simp at hf; omega⟩
          rw [readS, if_neg (by simp [hk]), if_neg (by rw [hts]; simp), hts]
          simp only [List.map_append, List.map_cons, List.map_nil]
          rw [List.nil_append] at h1
          rw [h1]
          cases f <;> simp [readS]
  | x :: xs, zs, f, ts, ps, h, hf, hz, hx, hs, hc1, hpos => by
    rw [shapeI] at h
    split at h
    · rename_i hm
      have := read_items (en := en) xs (zs ++ [x]) f ts ps (by simpa using h) hf (fun z hz' => by
        rcases List.mem_append.1 hz' with hz' | hz'
        · exact hz z hz'
        · rw [List.mem_singleton.1 hz']; exact ⟨hx x (by simp), hm.2⟩) (fun y hy => hx y (by simp [hy])) (by simpa using hs) (by simpa using hc1) hpos
      simpa using this
    · cases ts with
      | nil => simp at h
      | cons t ts =>
        simp only [List.map_cons, List.cons.injEq] at h
        obtain ⟨ht, h⟩ := h
        simp only [er, Prod.mk.injEq] at ht
        obtain ⟨hk, hts, hn⟩ := ht
        obtain ⟨a, rest, rfl, ha, hrest⟩ := split_map h
        obtain ⟨ha1, ha2⟩ := num_toks ha
        have hxx := hx x (by simp)
        have hs2 := okSeq_app (a := (zs ++ [x]).map (·.r)) (b := xs.map (·.r)) (by simpa using hs)
        obtain ⟨ps', h1, h2⟩ := word_items (en := en) zs x t.place a rest ps hz hxx ha1 ha2 (.inr (num_shape (xs := xs) (pre := []) hrest)) hs2.1 (fun y hy => hc1 y (by rcases List.mem_append.1 hy with h | h; exact List.mem_append_left _ h; rw [List.mem_singleton.1 h]; simp)) hpos
        obtain ⟨f, rfl⟩ : ∃ g, f = g + 1 := ⟨f - 1, by simp at hf; omega⟩
        have hpos2 : ∀ p ∈ ps ++ ps', 0 < p.r.kind := by
          intro p hp
          rcases List.mem_append.1 hp with hp | hp
          · exact hpos p hp
          · have hmem : p.r ∈ (zs ++ [x]).map (·.r) := by
              have e1 : ps'.map (·.r) = (zs ++ [x]).map (·.r) := by
                have := congrArg (List.map Prod.fst) h2
                simpa [partE, itE, Function.comp_def] using this
              rw [← e1]
              exact List.mem_map.2 ⟨p, hp, rfl⟩
            have hall : ∀ (l : List Rl) (k : Nat), okSeq k l → ∀ r ∈ l, 0 < r.kind := by
              intro l
              induction l with
              | nil => intro k _ r hr; simp at hr
              | cons q l ih =>
                intro k hk r hr
                have hk' : (k = 0 → q.kind = 1) ∧ ¬ (q.kind = 6 ∧ k = 6) ∧ 0 < q.kind ∧ okSeq q.kind l := hk
                rcases List.mem_cons.1 hr with rfl | hr
                · exact hk'.2.2.1
                · exact ih _ hk'.2.2.2 r hr
            exact hall _ _ hs2.1 _ hmem
        obtain ⟨ps2, h3, h4⟩ := read_items xs [] f rest (ps ++ ps') hrest (by simp at hf; omega) (by simp) (fun y hy => hx y (by simp [hy])) (by
          rw [lastKind_map ps h2]
          simpa using hs2.2) (fun y hy => hc1 y (by simp only [List.nil_append] at hy; simp [hy])) hpos2
        refine ⟨ps' ++ ps2, ?_, by simp [h2, h4]⟩
        rw [readS, if_neg (by simp [hk]), if_neg (by rw [hts]; simp), hts, h1]
        simp only
        rw [h3, List.append_assoc]
end Go.Proofs.YtefajplbgmikdaaDoor

/-
  The path of letters and numbers: capital letters, small letters from where the path stands. No model in this text.
-/
namespace Go.Proofs.YtefajplbgmikdaaDoor
open Go.Lib

def relN (sm : Bool) (p : Pen) : List Int → Nat → List Int
  | [], _ => []
  | v :: r, i => (if sm = true then v - (if i % 2 = 1 then p.y else p.x) else v) :: relN sm p r (i + 1)
def ruleK (k : Int) : Rl := if k = 1 then ⟨77, 2, 1⟩ else if k = 2 then ⟨76, 2, 2⟩ else if k = 3 then ⟨81, 4, 3⟩ else if k = 4 then ⟨67, 6, 4⟩ else if k = 5 then ⟨75, 5, 5⟩ else ⟨90, 0, 6⟩
def numsP (sm : Bool) (p : Pen) (s : Sg) : List Int := (if s.kind = 5 then [s.w] else []) ++ relN sm p (s.v.take (countK s.kind)) 0
def nextP (p : Pen) (s : Sg) : Pen := moveS p s (countK s.kind)
def itsP (sm : Bool) : List Sg → Pen → List It
  | [], _ => []
  | s :: r, p => ⟨if sm = true then letterB s.kind + 32 else letterB s.kind, ruleK s.kind, numsP sm p s⟩ :: itsP sm r (nextP p s)

theorem relN_len (sm : Bool) (p : Pen) : ∀ (l : List Int) (i : Nat), (relN sm p l i).length = l.length
  | [], _ => rfl
  | v :: r, i => by simp [relN, relN_len sm p r (i + 1)]
theorem relN_false (p : Pen) : ∀ (l : List Int) (i : Nat), relN false p l i = l
  | [], _ => rfl
  | v :: r, i => by simp [relN, relN_false p r (i + 1)]
theorem absL_rel {p : Pen} {x : Part} (hx : x.r.name ≠ 86) : ∀ (ts : List Tok) (vs : List Int) (i : Nat), ts.map Tok.n = relN x.small p vs i → (∀ v ∈ vs, inR v = true) → absL p x ts i = .ok vs
  | [], [], i, _, _ => rfl
  | [], v :: vs, i, h, _ => by simp [relN] at h
  | t :: ts, [], i, h, _ => by simp [relN] at h
  | t :: ts, v :: vs, i, h, hv => by
    simp only [List.map_cons, relN, List.cons.injEq] at h
    have hn : absN p x i t = v := by
      unfold absN
      rw [h.1]
      cases hs : x.small with
      | false => simp
      | true =>
        simp only [if_true, hx, or_false]
        by_cases h2 : i % 2 = 1
        · rw [if_pos h2, if_pos h2]; omega
        · rw [if_neg h2, if_neg h2]; omega
    rw [absL, hn, if_pos (hv v (by simp)), absL_rel hx ts vs (i + 1) h.2 (fun u hu => hv u (by simp [hu]))]
theorem goodN_in {c : Nat} : ∀ {l : List Int} {i : Nat}, goodN c l i = true → ∀ v ∈ l, inR v = true
  | [], _, _, v, hv => by simp at hv
  | u :: l, i, h, v, hv => by
    simp only [goodN, Bool.and_eq_true] at h
    rcases List.mem_cons.1 hv with rfl | hv
    · exact h.1.1
    · exact goodN_in h.2 v hv
theorem goodN_tail {c : Nat} : ∀ {l : List Int} {i : Nat}, goodN c l i = true → c ≤ i → l = List.replicate l.length 0
  | [], _, _, _ => rfl
  | u :: l, i, h, hi => by
    simp only [goodN, Bool.and_eq_true, Bool.or_eq_true, decide_eq_true_eq] at h
    rw [List.length_cons, List.replicate_succ, ← goodN_tail h.2 (by omega)]
    congr 1
    rcases h.1.2 with h | h
    · exact h
    · omega
theorem goodN_drop {c : Nat} : ∀ {l : List Int} {i k : Nat}, goodN c l i = true → goodN c (l.drop k) (i + k) = true
  | [], _, k, _ => by simp [goodN]
  | u :: l, i, 0, h => h
  | u :: l, i, k + 1, h => by
    simp only [goodN, Bool.and_eq_true] at h
    have := goodN_drop (k := k) h.2
    rw [List.drop_succ_cons, show i + (k + 1) = i + 1 + k by omega]
    exact this
theorem kind_cases {k : Int} (h1 : 1 ≤ k) (h2 : k ≤ 6) : k = 1 ∨ k = 2 ∨ k = 3 ∨ k = 4 ∨ k = 5 ∨ k = 6 := by omega
theorem good_all {s : Sg} (h : goodOne s = true) : (1 ≤ s.kind ∧ s.kind ≤ 6) ∧ goodN (countK s.kind) s.v 0 = true ∧ goodW s = true := by
  unfold goodOne at h
  simp only [Bool.and_eq_true, decide_eq_true_eq] at h
  exact ⟨⟨h.1.1.1, h.1.1.2⟩, h.1.2, h.2⟩
theorem take_fill {s : Sg} (h : goodOne s = true) (hv : s.v.length = 6) : s.v.take (countK s.kind) ++ List.replicate (6 - (s.v.take (countK s.kind)).length) 0 = s.v := by
  have h1 := (good_all h).2.1
  have hd := goodN_tail (goodN_drop (k := countK s.kind) h1) (by omega)
  have hc : countK s.kind ≤ 6 := by unfold countK; (repeat' split) <;> omega
  have hl : (s.v.take (countK s.kind)).length = countK s.kind := by simp; omega
  rw [hl]
  rw [List.length_drop, hv] at hd
  conv => rhs; rw [← List.take_append_drop (countK s.kind) s.v]
  rw [hd]
theorem weight_of {x : Part} {s : Sg} {p : Pen} (hk : goodW s = true) (hr : x.r = ruleK s.kind) (h56 : s.kind = 5 ∨ (s.kind ≠ 5 ∧ (ruleK s.kind).kind ≠ 5)) (h5 : s.kind = 5 → (ruleK s.kind).kind = 5) (hn : x.nums.map Tok.n = numsP x.small p s) :
    ∃ ns, weightS x = .ok (s.w, ns) ∧ ns.map Tok.n = relN x.small p (s.v.take (countK s.kind)) 0 := by
  unfold weightS goodW at *
  rcases h56 with h | ⟨h, h'⟩
  · rw [hr, if_pos (h5 h)]
    rw [if_pos h] at hk
    simp only [Bool.and_eq_true, decide_eq_true_eq] at hk
    unfold numsP at hn
    rw [if_pos h] at hn
    cases hx : x.nums with
    | nil => rw [hx] at hn; simp at hn
    | cons t r =>
      rw [hx] at hn
      simp only [List.map_cons, List.singleton_append, List.cons.injEq] at hn
      simp only [hn.1]
      rw [if_neg (by omega)]
      exact ⟨r, rfl, hn.2⟩
  · rw [hr, if_neg h']
    rw [if_neg h] at hk
    unfold numsP at hn
    rw [if_neg h] at hn
    have : s.w = 0 := by simpa using hk
    exact ⟨x.nums, by rw [this], by simpa using hn⟩
/-- One part. -/
theorem seg_of {x : Part} {s : Sg} {p : Pen} (hg : goodOne s = true) (hv : s.v.length = 6) (hr : x.r = ruleK s.kind) (hn : x.nums.map Tok.n = numsP x.small p s) : segS p x = .ok (s, nextP p s) := by
  obtain ⟨hk, h1, h2⟩ := good_all hg
  have hfacts : ∀ k : Int, (k = 1 ∨ k = 2 ∨ k = 3 ∨ k = 4 ∨ k = 5 ∨ k = 6) → ((k = 5 ∨ (k ≠ 5 ∧ (ruleK k).kind ≠ 5)) ∧ (k = 5 → (ruleK k).kind = 5) ∧ ¬ ((ruleK k).name = 83 ∨ (ruleK k).name = 84) ∧ (ruleK k).name ≠ 86 ∧ (ruleK k).name ≠ 72 ∧ ((ruleK k).kind : Int) = k) := by
    intro k hk
    rcases hk with rfl | rfl | rfl | rfl | rfl | rfl <;> decide
  obtain ⟨f1, f2, f3, f4, f5, f6⟩ := hfacts s.kind (kind_cases hk.1 hk.2)
  obtain ⟨ns, hw, hns⟩ := weight_of h2 hr f1 f2 hn
  unfold segS preS
  rw [hr, if_neg f3]
  simp only [hw]
  rw [absL_rel (by rw [hr]; exact f4) ns _ 0 hns (fun v hv' => goodN_in h1 v (List.mem_of_mem_take hv'))]
  simp only [List.nil_append]
  have hl : lineV p x (s.v.take (countK s.kind)) = s.v.take (countK s.kind) := by
    unfold lineV
    rw [hr, if_neg f5, if_neg f4]
  rw [hl, take_fill hg hv]
  have hc : countK s.kind ≤ 6 := by unfold countK; (repeat' split) <;> omega
  have hlen : (s.v.take (countK s.kind)).length = countK s.kind := by simp; omega
  rw [hlen]
  have : (⟨((ruleK s.kind).kind : Int), s.v, s.w⟩ : Sg) = s := by rw [f6]
  rw [this]
  rfl
theorem segs_of {sm : Bool} : ∀ (l : List Sg) (ps : List Part) (i : Nat) (p : Pen), ps.map partE = (itsP sm l p).map (fun x => (x.r, sm, x.ns)) → (∀ s ∈ l, goodOne s = true ∧ s.v.length = 6) → i + l.length ≤ 4096 → segsS ps i p = .ok l
  | [], [], i, p, _, _, _ => rfl
  | [], q :: ps, i, p, h, _, _ => by simp [itsP] at h
  | s :: l, [], i, p, h, _, _ => by simp [itsP] at h
  | s :: l, q :: ps, i, p, h, hg, hi => by
    simp only [List.map_cons, itsP, List.cons.injEq, partE, Prod.mk.injEq] at h
    obtain ⟨⟨h1, h2, h3⟩, h⟩ := h
    have hs := hg s (by simp)
    simp only [List.length_cons] at hi
    rw [segsS, if_neg (by omega), seg_of hs.1 hs.2 h1 (by rw [h2]; exact h3)]
    simp only
    rw [segs_of l ps (i + 1) (nextP p s) h (fun x hx => hg x (by simp [hx])) (by omega)]
theorem ruleK_facts {k : Int} (h1 : 1 ≤ k) (h2 : k ≤ 6) : ruleOf (letterB k).toNat = some (ruleK k) ∧ ruleOf (letterB k + 32).toNat = some (ruleK k) ∧ smallC (letterB k).toNat = false ∧ smallC (letterB k + 32).toNat = true ∧ ((ruleK k).kind : Int) = k ∧ 0 < (ruleK k).kind ∧ ((ruleK k).kind = 1 → (ruleK k).count ≠ 0) ∧ (ruleK k).count = (if k = 5 then 1 else 0) + countK k ∧
    kd (letterB k).toNat = 2 ∧ kd (letterB k + 32).toNat = 2 ∧ countK k ≤ 6 := by
  rcases kind_cases h1 h2 with rfl | rfl | rfl | rfl | rfl | rfl <;> decide
theorem nums_len (sm : Bool) (p : Pen) {s : Sg} (hk : 1 ≤ s.kind ∧ s.kind ≤ 6) (hv : s.v.length = 6) : (numsP sm p s).length = (ruleK s.kind).count := by
  have hf := ruleK_facts hk.1 hk.2
  unfold numsP
  rw [List.length_append, relN_len, hf.2.2.2.2.2.2.2.1, List.length_take, hv]
  have := hf.2.2.2.2.2.2.2.2.2.2
  split <;> simp <;> omega
theorem its_ok (sm : Bool) : ∀ (l : List Sg) (p : Pen), (∀ s ∈ l, goodOne s = true ∧ s.v.length = 6) → (∀ x ∈ itsP sm l p, okIt x ∧ smallC x.c.toNat = sm ∧ (x.r.kind = 1 → x.r.count ≠ 0))
  | [], p, _, x, hx => by simp [itsP] at hx
  | s :: l, p, h, x, hx => by
    rcases List.mem_cons.1 hx with rfl | hx
    · have hs := h s (by simp)
      have hk := (good_all hs.1).1
      have hf := ruleK_facts hk.1 hk.2
      refine ⟨⟨?_, (nums_len sm p hk hs.2).symm⟩, ?_, hf.2.2.2.2.2.2.1⟩
      · dsimp only
        cases sm
        · exact hf.1
        · exact hf.2.1
      · dsimp only
        cases sm
        · exact hf.2.2.1
        · exact hf.2.2.2.1
    · exact its_ok sm l _ (fun y hy => h y (by simp [hy])) x hx
theorem its_rules (sm : Bool) : ∀ (l : List Sg) (p : Pen), (itsP sm l p).map (·.r) = l.map (fun s => ruleK s.kind)
  | [], _ => rfl
  | s :: l, p => by simp [itsP, its_rules sm l]
theorem seq_of : ∀ (l : List Sg) (k : Nat), (∀ s ∈ l, goodOne s = true) → noTwo l = true → (k = 0 → ∀ s, l.head? = some s → s.kind = 1) → (k = 6 → ∀ s, l.head? = some s → s.kind ≠ 6) → okSeq k (l.map (fun s => ruleK s.kind))
  | [], k, _, _, _, _ => trivial
  | s :: l, k, hg, hn, h0, h6 => by
    have hk := (good_all (hg s (by simp))).1
    have hf := ruleK_facts hk.1 hk.2
    have hkk := hf.2.2.2.2.1
    have hk0 := hf.2.2.2.2.2.1
    have hz : (ruleK s.kind).kind = 0 → ∀ t, l.head? = some t → t.kind = 1 := fun e => by omega
    have ha : k = 0 → (ruleK s.kind).kind = 1 := fun e => by have := h0 e s rfl; omega
    have hb : ¬ ((ruleK s.kind).kind = 6 ∧ k = 6) := fun e => h6 e.2 s rfl (by omega)
    refine ⟨ha, hb, hk0, seq_of l _ (fun x hx => hg x (by simp [hx])) ?_ hz ?_⟩
    · cases l with
      | nil => rfl
      | cons b l =>
        simp only [noTwo, Bool.and_eq_true] at hn
        exact hn.2
    · intro e t ht
      have e' : (ruleK s.kind).kind = 6 := e
      cases l with
      | nil => simp at ht
      | cons b l =>
        simp only [List.head?_cons, Option.some.injEq] at ht
        subst ht
        simp only [noTwo, Bool.and_eq_true, Bool.not_eq_true'] at hn
        have := hn.1
        simp at this
        exact this (by omega)
/-- The path of tokens of that shape. -/
theorem parse_of (sm mg : Bool) (l : List Sg) (ts : List Tok) (en : Int) (hg : goodS l = true) (hv : ∀ s ∈ l, s.v.length = 6) (h : ts.map er = shapeI mg (itsP sm l pen0) []) : parseS ts en = .ok l := by
  unfold goodS at hg
  simp only [Bool.and_eq_true, decide_eq_true_eq, List.all_eq_true] at hg
  obtain ⟨⟨⟨hh, hl⟩, hall⟩, hno⟩ := hg
  have hgv : ∀ s ∈ l, goodOne s = true ∧ s.v.length = 6 := fun s hs => ⟨hall s hs, hv s hs⟩
  have hok := its_ok sm l pen0 hgv
  have hne : ts ≠ [] := by
    rintro rfl
    cases l with
    | nil => simp [headOk] at hh
    | cons s r =>
      simp only [headOk, decide_eq_true_eq] at hh
      simp only [List.map_nil, itsP, shapeI] at h
      have : numsP sm pen0 s ≠ [] := fun e => by
        have h2 := nums_len sm pen0 (good_all (hall s (by simp))).1 (hv s (by simp))
        rw [e, hh] at h2
        cases h2
      rw [if_neg (fun e => this e.2)] at h
      cases h
  obtain ⟨ps', h1, h2⟩ := read_items (en := en) (itsP sm l pen0) [] ts.length ts [] h (Nat.le_refl _) (by simp) (fun x hx => (hok x hx).1) (by
    rw [List.nil_append, its_rules]
    refine seq_of l _ hall hno (fun _ s hs => ?_) (fun e => by cases e)
    cases l with
    | nil => simp at hs
    | cons b r =>
      simp only [headOk, decide_eq_true_eq] at hh
      simp only [List.head?_cons, Option.some.injEq] at hs
      subst hs
      exact hh) (fun y hy => (hok y (by simpa using hy)).2.2) (by simp)
  unfold parseS readAll
  rw [if_neg hne, h1]
  simp only [List.nil_append]
  refine segs_of (sm := sm) l ps' 0 pen0 ?_ hgv (by omega)
  rw [h2]
  simp only [List.nil_append]
  refine List.map_congr_left fun x hx => ?_
  unfold itE
  rw [(hok x hx).2.1]
end Go.Proofs.YtefajplbgmikdaaDoor
