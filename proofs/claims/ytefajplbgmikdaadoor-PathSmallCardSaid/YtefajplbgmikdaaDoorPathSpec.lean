/-
  The parts of a path, in plain words: what path.Parse and path.Text tell. No model in this text.
-/
import Derived.Test.YtefajplbgmikdaaDoorLexSpec
namespace Go.Proofs.YtefajplbgmikdaaDoor

/-- What a letter has. -/
structure Rl where
  name : Nat
  count : Nat
  kind : Nat
deriving DecidableEq, Repr
def rulesL : List Rl := [⟨77, 2, 1⟩, ⟨76, 2, 2⟩, ⟨72, 1, 2⟩, ⟨86, 1, 2⟩, ⟨81, 4, 3⟩, ⟨67, 6, 4⟩, ⟨83, 4, 4⟩, ⟨84, 2, 3⟩, ⟨75, 5, 5⟩, ⟨90, 0, 6⟩]
def smallC (c : Nat) : Bool := decide (97 ≤ c ∧ c ≤ 122)
def upC (c : Nat) : Nat := if smallC c then c - 32 else c
def ruleOf (c : Nat) : Option Rl := rulesL.find? fun r => r.name == upC c
def ruleL : Rl := ⟨76, 2, 2⟩

/-- A letter with its numbers, once. -/
structure Part where
  r : Rl
  small : Bool
  place : Int
  nums : List Tok
deriving DecidableEq, Repr

def takeNums (en : Int) : Nat → List Tok → Except Int (List Tok × List Tok)
  | 0, l => .ok ([], l)
  | _ + 1, [] => .error en
  | n + 1, t :: l => if t.kind = 2 then (match takeNums en n l with | .ok (a, r) => .ok (t :: a, r) | .error e => .error e) else .error t.place
def onceS (en : Int) (x : Rl) (sm : Bool) (pl : Int) (l : List Tok) (ps : List Part) : Except Int (List Tok × List Part) :=
  match takeNums en x.count l with
  | .ok (a, r) => .ok (r, ps ++ [⟨x, sm, pl, a⟩])
  | .error e => .error e
def placeS (en : Int) : List Tok → Int
  | [] => en
  | t :: _ => t.place
def numS : List Tok → Bool
  | [] => false
  | t :: _ => decide (t.kind = 2)
def againS (en : Int) (x : Rl) (sm : Bool) : Nat → List Tok → List Part → Except Int (List Tok × List Part)
  | 0, l, ps => .ok (l, ps)
  | f + 1, l, ps =>
    if 0 < x.count ∧ numS l = true then
      match onceS en x sm (placeS en l) l ps with
      | .ok (l', ps') => againS en x sm f l' ps'
      | .error e => .error e
    else .ok (l, ps)
def lastKind (ps : List Part) : Nat := match ps.getLast? with | none => 0 | some p => p.r.kind
def letterS (en : Int) (c : Nat) (pl : Int) (more : Bool) (l : List Tok) (ps : List Part) : Except Int (List Tok × List Part) :=
  match ruleOf c with
  | none => .error pl
  | some x =>
    if (ps = [] ∧ x.kind ≠ 1) ∨ (x.kind = 6 ∧ lastKind ps = 6) then .error pl
    else if more = true ∧ 0 < x.count then .error (pl + 1)
    else match onceS en x (smallC c) pl l ps with
      | .ok (l', ps') => againS en (if x.kind = 1 then ruleL else x) (smallC c) l'.length l' ps'
      | .error e => .error e
def wordS (en : Int) : List UInt8 → Int → List Tok → List Part → Except Int (List Tok × List Part)
  | [], _, l, ps => .ok (l, ps)
  | c :: cs, pl, l, ps =>
    match letterS en c.toNat pl (!cs.isEmpty) l ps with
    | .ok (l', ps') => wordS en cs (pl + 1) l' ps'
    | .error e => .error e
def readS (en : Int) : Nat → List Tok → List Part → Except Int (List Part)
  | _, [], ps => .ok ps
  | 0, _ :: _, ps => .ok ps
  | f + 1, t :: l, ps =>
    if t.kind ≠ 1 then .error t.place
    else if t.s = [] then .error t.place
    else match wordS en t.s t.place l ps with
      | .ok (l', ps') => readS en f l' ps'
      | .error e => .error e
def readAll (en : Int) (l : List Tok) : Except Int (List Part) := if l = [] then .error en else readS en l.length l []

/-- A part of a path. -/
structure Sg where
  kind : Int
  v : List Int
  w : Int
deriving DecidableEq, Repr
structure Pen where
  x : Int
  y : Int
  fx : Int
  fy : Int
  last : Sg
deriving DecidableEq, Repr
def inR (v : Int) : Bool := decide (-2147483648 < v ∧ v < 2147483648)
def mirrorS (p : Pen) (k : Int) : Int × Int :=
  if p.last.kind ≠ k then (p.x, p.y)
  else if k = 4 then (2 * p.x - p.last.v.getD 2 0, 2 * p.y - p.last.v.getD 3 0)
  else (2 * p.x - p.last.v.getD 0 0, 2 * p.y - p.last.v.getD 1 0)
def absN (p : Pen) (x : Part) (i : Nat) (t : Tok) : Int := if x.small = true then (if i % 2 = 1 ∨ x.r.name = 86 then t.n + p.y else t.n + p.x) else t.n
def absL (p : Pen) (x : Part) : List Tok → Nat → Except Int (List Int)
  | [], _ => .ok []
  | t :: r, i =>
    if inR (absN p x i t) = true then match absL p x r (i + 1) with | .ok l => .ok (absN p x i t :: l) | .error e => .error e
    else .error t.place
def preS (p : Pen) (x : Part) : Except Int (List Int) :=
  if x.r.name = 83 ∨ x.r.name = 84 then
    (if inR (mirrorS p x.r.kind).1 = true ∧ inR (mirrorS p x.r.kind).2 = true then .ok [(mirrorS p x.r.kind).1, (mirrorS p x.r.kind).2] else .error x.place)
  else .ok []
def weightS (x : Part) : Except Int (Int × List Tok) :=
  if x.r.kind = 5 then match x.nums with
    | [] => .error 0
    | t :: r => if t.n < 1 ∨ 4096 < t.n then .error t.place else .ok (t.n, r)
  else .ok (0, x.nums)
def lineV (p : Pen) (x : Part) (v : List Int) : List Int := if x.r.name = 72 then [v.getD 0 0, p.y] else if x.r.name = 86 then [p.x, v.getD 0 0] else v
def moveS (p : Pen) (s : Sg) (n : Nat) : Pen :=
  let x := if s.kind = 6 then p.fx else s.v.getD (n - 2) 0
  let y := if s.kind = 6 then p.fy else s.v.getD (n - 1) 0
  ⟨x, y, if s.kind = 1 then x else p.fx, if s.kind = 1 then y else p.fy, s⟩
def segS (p : Pen) (x : Part) : Except Int (Sg × Pen) :=
  match preS p x with
  | .error e => .error e
  | .ok pr => match weightS x with
    | .error e => .error e
    | .ok (w, ns) => match absL p x ns 0 with
      | .error e => .error e
      | .ok vs =>
        let v := lineV p x (pr ++ vs)
        let s : Sg := ⟨x.r.kind, v ++ List.replicate (6 - v.length) 0, w⟩
        .ok (s, moveS p s v.length)
def pen0 : Pen := ⟨0, 0, 0, 0, ⟨0, [0, 0, 0, 0, 0, 0], 0⟩⟩
def segsS : List Part → Nat → Pen → Except (Int × Int) (List Sg)
  | [], _, _ => .ok []
  | x :: r, i, p =>
    if 4096 ≤ i then .error (x.place, 22)
    else match segS p x with
      | .error a => .error (a, 21)
      | .ok (s, p') => match segsS r (i + 1) p' with
        | .ok l => .ok (s :: l)
        | .error e => .error e
/-- The path of tokens, or what is wrong: the place, the error. -/
def parseS (l : List Tok) (en : Int) : Except (Int × Int) (List Sg) :=
  match readAll en l with
  | .error a => .error (a, 20)
  | .ok ps => segsS ps 0 pen0
/-- The path of a text, or what is wrong. -/
def ofS (s : List UInt8) : Except (Int × Int) (List Sg) :=
  match cutL s 0 0 with
  | .error i => .error (i, 20)
  | .ok l => parseS l s.length
end Go.Proofs.YtefajplbgmikdaaDoor
