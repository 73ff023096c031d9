/-
  The text of a path in plain words, whether a path is good; a text of pieces and its tokens. No model in this text.
-/
import Derived.Test.YtefajplbgmikdaaDoorPathSpecB
import Derived.Lib.Join
namespace Go.Proofs.YtefajplbgmikdaaDoor
open Go.Lib

/-- How many numbers a kind has. -/
def countK (k : Int) : Nat := if k = 1 then 2 else if k = 2 then 2 else if k = 3 then 4 else if k = 4 then 6 else if k = 5 then 4 else 0
def goodN (c : Nat) : List Int → Nat → Bool
  | [], _ => true
  | v :: r, i => inR v && (decide (v = 0) || decide (i < c)) && goodN c r (i + 1)
def goodW (s : Sg) : Bool := if s.kind = 5 then decide (1 ≤ s.w) && decide (s.w ≤ 4096) else decide (s.w = 0)
def goodOne (s : Sg) : Bool := decide (1 ≤ s.kind) && decide (s.kind ≤ 6) && goodN (countK s.kind) s.v 0 && goodW s
def noTwo : List Sg → Bool
  | [] => true
  | [_] => true
  | a :: b :: r => !(decide (a.kind = 6) && decide (b.kind = 6)) && noTwo (b :: r)
def headOk : List Sg → Bool
  | [] => false
  | s :: _ => decide (s.kind = 1)
def goodS (l : List Sg) : Bool := headOk l && decide (l.length ≤ 4096) && l.all goodOne && noTwo l
def letterB (k : Int) : UInt8 := if k = 1 then 77 else if k = 2 then 76 else if k = 3 then 81 else if k = 4 then 67 else if k = 5 then 75 else 90
def numsOf (s : Sg) : List Int := (if s.kind = 5 then [s.w] else []) ++ s.v.take (countK s.kind)
def wordsOf (s : Sg) : List (List UInt8) := [letterB s.kind] :: (numsOf s).map itoa
def wordsS (l : List Sg) : List (List UInt8) := l.flatMap wordsOf
def textS (l : List Sg) : List UInt8 := Lib.join (wordsS l) [32]

/-- A piece of a text: letters, a number, a blank. -/
inductive Pc where
  | w (l : List UInt8)
  | n (n : Int)
  | b (c : UInt8)
def pcB : Pc → List UInt8
  | .w l => l
  | .n n => itoa n
  | .b c => [c]
def render (ps : List Pc) : List UInt8 := ps.flatMap pcB
def pcT : Pc → Nat → List Tok
  | .w l, i => [⟨1, l, 0, i⟩]
  | .n n, i => [⟨2, [], n, i⟩]
  | .b _, _ => []
def toksP : List Pc → Nat → List Tok
  | [], _ => []
  | p :: r, i => pcT p i ++ toksP r (i + (pcB p).length)
def isN : List Pc → Bool
  | .n _ :: _ => true
  | _ => false
def isW : List Pc → Bool
  | .w _ :: _ => true
  | _ => false
/-- The pieces can be told apart. -/
def pcOk : List Pc → Prop
  | [] => True
  | .w l :: r => (l ≠ [] ∧ ∀ c ∈ l, kd c.toNat = 2) ∧ isW r = false ∧ pcOk r
  | .n n :: r => n.natAbs < 4611686018427387904 ∧ isN r = false ∧ pcOk r
  | .b c :: r => kd c.toNat = 1 ∧ pcOk r

theorem runL_app {k : Nat} : ∀ (a r : List UInt8), (∀ c ∈ a, kd c.toNat = k) → runL k r = 0 → runL k (a ++ r) = a.length
  | [], r, _, h => by simpa using h
  | c :: a, r, h1, h2 => by
    rw [List.cons_append, runL_pos (h1 c (by simp)), runL_app a r (fun x hx => h1 x (by simp [hx])) h2]
    simp
theorem cutT_skip : ∀ (a r : List UInt8) (i to : Nat), i + a.length ≤ to → cutL (a ++ r) i to = cutL r (i + a.length) to
  | [], r, i, to, h => by simp
  | c :: a, r, i, to, h => by
    have h' : i + 1 + a.length ≤ to := by simp at h; omega
    rw [List.cons_append, cutL, if_pos (by omega), cutT_skip a r (i + 1) to h']
    simp; congr 1; omega
theorem cut_to : ∀ (r : List UInt8) (i to : Nat), to ≤ i → cutL r i to = cutL r i 0
  | [], i, to, h => rfl
  | c :: r, i, to, h => by
    rw [cutL]
    conv => rhs; rw [cutL]
    rw [if_neg (show ¬ i < to by omega), if_neg (show ¬ i < 0 by omega)]
    by_cases h1 : kd c.toNat = 1
    · rw [if_pos h1, if_pos h1, cut_to r (i + 1) to (by omega)]
    · rw [if_neg h1, if_neg h1]
theorem digit_kd {c : UInt8} (h : 48 ≤ c.toNat ∧ c.toNat ≤ 57) : kd c.toNat = 3 := by
  unfold kd
  rw [if_neg (by omega), if_neg (by omega), if_pos (by omega)]
theorem dec_digit : ∀ u, ∀ c ∈ decDigits u, 48 ≤ c.toNat ∧ c.toNat ≤ 57 := by
  intro u
  induction u using Nat.strongRecOn with
  | _ u ih =>
    intro c hc
    rw [decDigits] at hc
    split at hc
    · rename_i h
      simp only [List.mem_singleton] at hc
      subst hc
      simp; omega
    · rename_i h
      rcases List.mem_append.1 hc with hc | hc
      · exact ih (u / 10) (by omega) c hc
      · simp only [List.mem_singleton] at hc
        subst hc
        simp; omega
theorem numN_snoc : ∀ (l : List UInt8) (n : Nat) (c : UInt8), numN n l * 10 + (c.toNat - 48) < 4611686018427387904 → 48 ≤ c.toNat ∧ c.toNat ≤ 57 → (numN n l ≠ 4611686018427387904) → numN n (l ++ [c]) = numN n l * 10 + (c.toNat - 48)
  | [], n, c, h, hc, _ => by
    simp only [List.nil_append, numN] at h ⊢
    rw [if_neg (by omega)]
  | x :: l, n, c, h, hc, h2 => by
    rw [List.cons_append, numN]
    rw [numN] at h h2
    rw [numN]
    split
    · rename_i hx
      rw [if_pos hx] at h2
      exact absurd rfl h2
    · rename_i hx
      rw [if_neg hx] at h h2
      exact numN_snoc l _ c h hc h2
theorem numN_dec : ∀ u, u < 4611686018427387904 → numN 0 (decDigits u) = u := by
  intro u
  induction u using Nat.strongRecOn with
  | _ u ih =>
    intro hu
    rw [decDigits]
    split
    · rename_i h
      simp only [numN]
      rw [if_neg (by omega)]
      simp; omega
    · rename_i h
      have hi := ih (u / 10) (by omega) (by omega)
      have hm : (UInt8.ofNat (48 + u % 10)).toNat = 48 + u % 10 := by simp; omega
      rw [numN_snoc _ _ _ (by rw [hi, hm]; omega) (by rw [hm]; omega) (by rw [hi]; omega), hi, hm]
      omega
theorem decD_ne (u : Nat) : decDigits u ≠ [] := by
  intro h
  have h1 := decDigits_length u
  have h2 := nDigits_pos u
  rw [h, List.length_nil] at h1
  omega
theorem run_next {r : List Pc} {k : Nat} (hk : (k = 3 ∧ isN r = false) ∨ (k = 2 ∧ isW r = false)) (h : pcOk r) : runL k (render r) = 0 := by
  cases r with
  | nil => rfl
  | cons p r =>
    cases p with
    | w l =>
      rcases hk with ⟨rfl, _⟩ | ⟨rfl, h2⟩
      · obtain ⟨⟨hne, hl⟩, _⟩ := h
        cases l with
        | nil => exact absurd rfl hne
        | cons c l =>
          simp only [render, List.flatMap_cons, pcB, List.cons_append, runL]
          rw [if_neg (by rw [hl c (by simp)]; decide)]
      · cases h2
    | n n =>
      rcases hk with ⟨rfl, h2⟩ | ⟨rfl, _⟩
      · cases h2
      · simp only [render, List.flatMap_cons, pcB]
        unfold itoa
        split
        · simp only [List.cons_append, runL]
          rw [if_neg (by decide)]
        · cases hd : decDigits n.toNat with
          | nil => exact absurd hd (decD_ne _)
          | cons c l =>
            simp only [List.cons_append, runL]
            rw [if_neg (by rw [digit_kd (dec_digit n.toNat c (by rw [hd]; simp))]; decide)]
    | b c =>
      simp only [render, List.flatMap_cons, pcB, List.cons_append, List.nil_append, runL]
      rw [if_neg (by rw [h.1]; omega)]
/-- The tokens of pieces. -/
theorem cut_pieces : ∀ (ps : List Pc) (i : Nat), pcOk ps → cutL (render ps) i 0 = .ok (toksP ps i)
  | [], i, _ => rfl
  | .b c :: r, i, h => by
    have hr : render (.b c :: r) = c :: render r := rfl
    rw [hr, cutL, if_neg (by omega), if_pos h.1, cut_pieces r (i + 1) h.2]
    rfl
  | .w l :: r, i, h => by
    obtain ⟨⟨hne, hl⟩, hw, hr⟩ := h
    cases l with
    | nil => exact absurd rfl hne
    | cons c l =>
      have he : render (.w (c :: l) :: r) = c :: (l ++ render r) := rfl
      have hrun : runL 2 (c :: (l ++ render r)) = l.length + 1 := by
        rw [← List.cons_append, runL_app (c :: l) (render r) hl (run_next (.inr ⟨rfl, hw⟩) hr)]
        rfl
      have hk : kd c.toNat = 2 := hl c (by simp)
      rw [he, cutL, if_neg (by omega), if_neg (by rw [hk]; decide), if_pos hk, hrun, cutT_skip l (render r) (i + 1) _ (by omega), cut_to _ _ _ (by omega), cut_pieces r _ hr]
      have ht : (c :: (l ++ render r)).take (l.length + 1) = c :: l := by simp
      rw [ht]
      simp only [toksP, pcT, pcB, Except.map, List.singleton_append, List.length_cons]
      rw [show i + 1 + l.length = i + (l.length + 1) by omega]
  | .n n :: r, i, h => by
    obtain ⟨hn, hd, hr⟩ := h
    have h3 := run_next (.inl ⟨rfl, hd⟩) hr
    have he : render (.n n :: r) = itoa n ++ render r := rfl
    rw [he]
    simp only [toksP, pcT, pcB, List.singleton_append]
    by_cases hneg : n < 0
    · have hi : itoa n = 45 :: decDigits n.natAbs := by unfold itoa; rw [if_pos hneg]
      rw [hi, List.cons_append]
      have hrun : runL 3 (decDigits n.natAbs ++ render r) = (decDigits n.natAbs).length := runL_app _ _ (fun c hc => digit_kd (dec_digit _ c hc)) h3
      have hpos : (decDigits n.natAbs).length ≠ 0 := fun e => decD_ne _ (List.eq_nil_of_length_eq_zero e)
      rw [cutL, if_neg (by omega), if_neg (by decide), if_neg (by decide), if_neg (by decide), if_pos (by decide), hrun, if_neg hpos, cutT_skip _ _ _ _ (by omega), cut_to _ _ _ (by omega), cut_pieces r _ hr]
      have ht : (decDigits n.natAbs ++ render r).take (decDigits n.natAbs).length = decDigits n.natAbs := by simp
      rw [ht, numN_dec _ hn]
      simp only [Except.map, List.length_cons]
      rw [show i + 1 + (decDigits n.natAbs).length = i + ((decDigits n.natAbs).length + 1) by omega, show -(n.natAbs : Int) = n by omega]
    · have hi : itoa n = decDigits n.toNat := by unfold itoa; rw [if_neg hneg]
      rw [hi]
      cases hdd : decDigits n.toNat with
      | nil => exact absurd hdd (decD_ne _)
      | cons c l =>
        have hall : ∀ x ∈ (c :: l), kd x.toNat = 3 := fun x hx => digit_kd (dec_digit n.toNat x (by rw [hdd]; exact hx))
        have hrun : runL 3 (c :: (l ++ render r)) = l.length + 1 := by
          rw [← List.cons_append, runL_app (c :: l) (render r) hall h3]
          rfl
        have hk := hall c (by simp)
        rw [List.cons_append, cutL, if_neg (by omega), if_neg (by rw [hk]; decide), if_neg (by rw [hk]; decide), if_pos hk, hrun, cutT_skip l (render r) (i + 1) _ (by omega), cut_to _ _ _ (by omega), cut_pieces r _ hr]
        have ht : (c :: (l ++ render r)).take (l.length + 1) = decDigits n.toNat := by rw [hdd]; simp
        rw [ht, numN_dec _ (by omega)]
        simp only [Except.map, List.length_cons]
        rw [show i + 1 + l.length = i + (l.length + 1) by omega, show ((n.toNat : Nat) : Int) = n by omega]
end Go.Proofs.YtefajplbgmikdaaDoor
