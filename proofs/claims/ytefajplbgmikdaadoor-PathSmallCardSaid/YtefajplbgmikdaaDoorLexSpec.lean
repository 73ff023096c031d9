/-
  The tokens of a script, in plain words: what lex.Cut tells. No model in this text.
-/
import Derived.Lib.ItoaMem
import Derived.Lib.ItoaLen
import Derived.RowKit
namespace Go.Proofs.YtefajplbgmikdaaDoor

/-- The kind of a byte (of a rune): 1 blank, 2 letter, 3 digit, 4 minus, 5 end of line, 0 another one. -/
def kd (c : Nat) : Nat :=
  if c = 32 ∨ c = 44 then 1 else if (97 ≤ c ∧ c ≤ 122) ∨ (65 ≤ c ∧ c ≤ 90) then 2 else if 48 ≤ c ∧ c ≤ 57 then 3 else if c = 45 then 4 else if c = 10 then 5 else 0
theorem kd_lt {c : Nat} (h : kd c ≠ 0) : c < 128 := by
  unfold kd at h
  (repeat' split at h) <;> first | omega | (exact absurd rfl h)
theorem kd_high {c : Nat} (h : 128 ≤ c) : kd c = 0 := by
  unfold kd
  (repeat' split) <;> first | omega | rfl

/-- How many bytes of a kind a text begins with. -/
def runL (k : Nat) : List UInt8 → Nat
  | [] => 0
  | c :: r => if kd c.toNat = k then runL k r + 1 else 0
theorem runL_le (k : Nat) : ∀ l, runL k l ≤ l.length
  | [] => Nat.le_refl _
  | c :: r => by
    unfold runL
    split
    · have := runL_le k r
      simp; omega
    · simp
theorem runL_get (k : Nat) : ∀ (l : List UInt8) (j : Nat) (h : j < l.length), j < runL k l → kd (l[j]'h).toNat = k
  | [], _, h, _ => absurd h (by simp)
  | c :: r, j, h, hj => by
    unfold runL at hj
    split at hj
    · cases j with
      | zero => simpa
      | succ j =>
        have := runL_get k r j (by simpa using h) (by omega)
        simpa using this
    · omega
theorem runL_pos {k : Nat} {c : UInt8} {r : List UInt8} (h : kd c.toNat = k) : runL k (c :: r) = runL k r + 1 := by rw [runL, if_pos h]
theorem kd_dig {c : Nat} (h : kd c = 3) : 48 ≤ c ∧ c ≤ 57 := by
  unfold kd at h
  (repeat' split at h) <;> first | omega | assumption
/-- The number of digits, saturated. -/
def numN (n : Nat) : List UInt8 → Nat
  | [] => n
  | c :: r => if (4611686018427387904 - (c.toNat - 48)) / 10 < n then 4611686018427387904 else numN (n * 10 + (c.toNat - 48)) r

/-- A token. -/
structure Tok where
  kind : Int
  s : List UInt8
  n : Int
  place : Int
deriving DecidableEq, Repr

/-- The tokens of what is left of a text, of which the byte i comes next, and what is cut ends at 'to'; or where it is wrong. -/
def cutL : List UInt8 → Nat → Nat → Except Nat (List Tok)
  | [], _, _ => .ok []
  | c :: r, i, to =>
    if i < to then cutL r (i + 1) to
    else if kd c.toNat = 1 then cutL r (i + 1) to
    else if kd c.toNat = 2 then (cutL r (i + 1) (i + runL 2 (c :: r))).map (⟨1, (c :: r).take (runL 2 (c :: r)), 0, i⟩ :: ·)
    else if kd c.toNat = 3 then (cutL r (i + 1) (i + runL 3 (c :: r))).map (⟨2, [], numN 0 ((c :: r).take (runL 3 (c :: r))), i⟩ :: ·)
    else if kd c.toNat = 4 then if runL 3 r = 0 then .error i else (cutL r (i + 1) (i + (runL 3 r + 1))).map (⟨2, [], -(numN 0 (r.take (runL 3 r)) : Int), i⟩ :: ·)
    else if kd c.toNat = 5 then (cutL r (i + 1) (i + 1)).map (⟨3, [], 0, i⟩ :: ·)
    else .error i
end Go.Proofs.YtefajplbgmikdaaDoor
