/-
  Plain facts on the head of a P6 file: decimal digits, their value, that a head can be read in one way alone. No model in this text.
-/
import Derived.Lib.ItoaMem
import Derived.Lib.ItoaLen
import Derived.Lib.Strings
import Derived.Lib.Bytes
import Derived.RowKit
namespace Go.Proofs.YtokfbeikpbnpgaaDoor
open Go Go.Lib Go.RowKit

def Side (n : Int) : Prop := 1 ≤ n ∧ n ≤ 8192
instance (n : Int) : Decidable (Side n) := by unfold Side; infer_instance
def headL (w h : Int) : List UInt8 := [80, 54, 10] ++ (itoa w ++ ([32] ++ (itoa h ++ [10, 50, 53, 53, 10])))

def Dig (c : UInt8) : Prop := 48 ≤ c.toNat ∧ c.toNat ≤ 57
instance (c : UInt8) : Decidable (Dig c) := by unfold Dig; infer_instance
theorem snoc_of {l : List UInt8} (h : l ≠ []) : ∃ a c, l = a ++ [c] := ⟨l.dropLast, l.getLast h, (List.dropLast_concat_getLast h).symm⟩
def val (ds : List UInt8) : Nat := ds.foldl (fun n c => n * 10 + (c.toNat - 48)) 0
theorem val_snoc (ds : List UInt8) (c : UInt8) : val (ds ++ [c]) = val ds * 10 + (c.toNat - 48) := by simp [val, List.foldl_append]

theorem dec_dig : ∀ u, ∀ c ∈ decDigits u, Dig c := by
  intro u
  induction u using Nat.strongRecOn with
  | _ u ih =>
    intro c hc
    rw [decDigits] at hc
    split at hc
    · simp only [List.mem_singleton] at hc
      subst hc
      simp only [Dig, UInt8.toNat_ofNat']
      omega
    · rcases List.mem_append.1 hc with h | h
      · exact ih (u / 10) (by omega) c h
      · simp only [List.mem_singleton] at h
        subst h
        simp only [Dig, UInt8.toNat_ofNat']
        omega
theorem val_dec (u : Nat) : val (decDigits u) = u := by
  induction u using Nat.strongRecOn with
  | _ u ih =>
    rw [decDigits]
    split
    · simp only [val, List.foldl_cons, List.foldl_nil, UInt8.toNat_ofNat']; omega
    · rw [val_snoc, ih (u / 10) (by omega)]
      simp only [UInt8.toNat_ofNat']
      omega
theorem val_pos (ds : List UInt8) (hd : ∀ c ∈ ds, Dig c) (hne : ds ≠ []) (h0 : ds.head? ≠ some 48) : 1 ≤ val ds := by
  have step : ∀ (l : List UInt8) (n : Nat), 1 ≤ n → 1 ≤ l.foldl (fun n c => n * 10 + (c.toNat - 48)) n := by
    intro l
    induction l with
    | nil => intro n h; exact h
    | cons c l ih => intro n h; rw [List.foldl_cons]; exact ih _ (by omega)
  cases ds with
  | nil => exact absurd rfl hne
  | cons c l =>
    unfold val
    rw [List.foldl_cons]
    refine step l _ ?_
    have h1 := hd c (by simp)
    have h2 : c ≠ 48 := fun e => h0 (by simp [e])
    have h3 : c.toNat ≠ 48 := fun e => h2 (by apply UInt8.toNat_inj.1; rw [e]; rfl)
    simp only [Dig] at h1
    omega
theorem dec_val (ds : List UInt8) : ds ≠ [] → (∀ c ∈ ds, Dig c) → ds.head? ≠ some 48 → decDigits (val ds) = ds := by
  have aux : ∀ (n : Nat) (ds : List UInt8), ds.length = n → ds ≠ [] → (∀ c ∈ ds, Dig c) → ds.head? ≠ some 48 → decDigits (val ds) = ds := by
    intro n
    induction n with
    | zero => intro ds hl hne; exact absurd (List.eq_nil_of_length_eq_zero hl) hne
    | succ n ih =>
      intro ds hl hne hd h0
      obtain ⟨l, c, rfl⟩ : ∃ l c, ds = l ++ [c] := snoc_of hne
      have hc : Dig c := hd c (by simp)
      simp only [Dig] at hc
      have ec : UInt8.ofNat (48 + (c.toNat - 48)) = c := by
        rw [show 48 + (c.toNat - 48) = c.toNat by omega]; simp
      rw [val_snoc]
      cases l with
      | nil =>
        simp only [val, List.foldl_nil, Nat.zero_mul, Nat.zero_add, List.nil_append]
        rw [decDigits, dif_pos (by omega), ec]
      | cons a l =>
        have hp : 1 ≤ val (a :: l) := val_pos _ (fun x hx => hd x (by simp at hx ⊢; rcases hx with h | h <;> simp [h])) (by simp) (by simpa using h0)
        have hi := ih (a :: l) (by simpa using hl) (by simp) (fun x hx => hd x (by simp at hx ⊢; rcases hx with h | h <;> simp [h])) (by simpa using h0)
        rw [decDigits, dif_neg (by omega)]
        rw [show (val (a :: l) * 10 + (c.toNat - 48)) / 10 = val (a :: l) by omega, show (val (a :: l) * 10 + (c.toNat - 48)) % 10 = c.toNat - 48 by omega, hi, ec]
  exact fun h1 h2 h3 => aux _ ds rfl h1 h2 h3

theorem dec_ne (u : Nat) : decDigits u ≠ [] := by
  intro h
  have := decDigits_length u
  rw [h] at this
  have := nDigits_pos u
  simp at *
  omega
theorem dec_head (u : Nat) (h : 1 ≤ u) : (decDigits u).head? ≠ some 48 := by
  induction u using Nat.strongRecOn with
  | _ u ih =>
    rw [decDigits]
    split
    · intro e
      have e' := Option.some.inj e
      have := congrArg UInt8.toNat e'
      simp only [UInt8.toNat_ofNat', UInt8.reduceToNat] at this
      omega
    · rw [List.head?_append]
      intro e
      have hne := dec_ne (u / 10)
      cases hd : decDigits (u / 10) with
      | nil => exact hne hd
      | cons a l =>
        rw [hd] at e
        have := ih (u / 10) (by omega) (by omega)
        rw [hd] at this
        exact this (by simpa using e)

theorem itoa_side {n : Int} (h : Side n) : itoa n = decDigits n.toNat := by
  unfold itoa; rw [if_neg (by have := h.1; omega)]
theorem side_len {n : Int} (h : Side n) : 1 ≤ (itoa n).length ∧ (itoa n).length ≤ 4 := by
  rw [itoa_side h, decDigits_length]
  have h1 := h.1
  have h2 := h.2
  refine ⟨nDigits_pos _, ?_⟩
  by_cases a : n.toNat < 10
  · rw [nDigits_small a]; omega
  rw [nDigits_big a]
  by_cases b : n.toNat / 10 < 10
  · rw [nDigits_small b]; omega
  rw [nDigits_big b]
  by_cases c : n.toNat / 10 / 10 < 10
  · rw [nDigits_small c]; omega
  rw [nDigits_big c, nDigits_small (by omega)]
  omega

/-- Digits up to what is none can be read in one way alone. -/
theorem span_one : ∀ (a b : List UInt8) (c d : UInt8) (r s : List UInt8), (∀ x ∈ a, Dig x) → (∀ x ∈ b, Dig x) → ¬ Dig c → ¬ Dig d → a ++ c :: r = b ++ d :: s → a = b ∧ c = d ∧ r = s
  | [], [], c, d, r, s, _, _, _, _, h => by simpa using h
  | [], y :: b, c, d, r, s, _, hb, hc, _, h => by
    simp at h
    exact absurd (hb y (by simp)) (h.1 ▸ hc)
  | x :: a, [], c, d, r, s, ha, _, _, hd, h => by
    simp at h
    exact absurd (ha x (by simp)) (h.1 ▸ hd)
  | x :: a, y :: b, c, d, r, s, ha, hb, hc, hd, h => by
    simp only [List.cons_append, List.cons.injEq] at h
    obtain ⟨e1, e2, e3⟩ := span_one a b c d r s (fun z hz => ha z (by simp [hz])) (fun z hz => hb z (by simp [hz])) hc hd h.2
    exact ⟨by rw [h.1, e1], e2, e3⟩
theorem nd10 : ¬ Dig 10 := by decide
theorem nd32 : ¬ Dig 32 := by decide
theorem side_dig {n : Int} (h : Side n) : ∀ c ∈ itoa n, Dig c := by rw [itoa_side h]; exact dec_dig _
theorem itoa_inj {n m : Int} (h : Side n) (h' : Side m) (e : itoa n = itoa m) : n = m := by
  rw [itoa_side h, itoa_side h'] at e
  have := congrArg val e
  rw [val_dec, val_dec] at this
  have := h.1
  have := h'.1
  omega
theorem headL_inj {w h w' h' : Int} {b b' : List UInt8} (a1 : Side w) (a2 : Side h) (a3 : Side w') (a4 : Side h') (e : headL w h ++ b = headL w' h' ++ b') : w = w' ∧ h = h' ∧ b = b' := by
  simp only [headL, List.append_assoc, List.cons_append, List.nil_append, List.cons.injEq, true_and] at e
  obtain ⟨e1, _, e2⟩ := span_one _ _ _ _ _ _ (side_dig a1) (side_dig a3) nd32 nd32 e
  obtain ⟨e3, _, e4⟩ := span_one _ _ _ _ _ _ (side_dig a2) (side_dig a4) nd10 nd10 e2
  exact ⟨itoa_inj a1 a3 e1, itoa_inj a2 a4 e3, by simpa using e4⟩
theorem headL_length {w h : Int} (a1 : Side w) (a2 : Side h) : 11 ≤ (headL w h).length ∧ (headL w h).length ≤ 17 := by
  have := side_len a1
  have := side_len a2
  simp only [headL, List.length_append, List.length_cons, List.length_nil]
  omega

/-! ### the numbers of a head, byte by byte -/
def up (n c : Int) : Int := wrap64 (wrap64 (n * 10) + (c - 48))
def stp (st : Int × Int × Int) (c : Int) : Option (Int × Int × Int) :=
  if st.1 < 0 then (if c = 10 then some (0, st.2.1, st.2.2) else some st)
  else if 48 ≤ c ∧ c ≤ 57 then (if st.1 = 0 then some (st.1, up st.2.1 c, st.2.2) else some (st.1, st.2.1, up st.2.2 c))
  else if st.1 = 0 ∧ c = 32 then some (1, st.2.1, st.2.2) else none
def go (st : Int × Int × Int) : List UInt8 → Option (Int × Int × Int)
  | [] => some st
  | c :: l => (stp st c.toNat).bind fun s => go s l
theorem go_append (st : Int × Int × Int) (a b : List UInt8) : go st (a ++ b) = (go st a).bind fun s => go s b := by
  induction a generalizing st with
  | nil => rfl
  | cons c a ih =>
    simp only [List.cons_append, go]
    cases stp st c.toNat with
    | none => rfl
    | some s => simp [ih]
theorem go_take {st s : Int × Int × Int} {l : List UInt8} (h : go st l = some s) (k : Nat) : ∃ t, go st (l.take k) = some t := by
  rw [← List.take_append_drop k l, go_append] at h
  cases e : go st (l.take k) with
  | none => rw [e] at h; cases h
  | some t => exact ⟨t, rfl⟩
theorem go_next {st s : Int × Int × Int} {l : List UInt8} (h : go st l = some s) {k : Nat} (hk : k < l.length) {t : Int × Int × Int} (ht : go st (l.take k) = some t) : ∃ t', stp t (l[k]).toNat = some t' ∧ go st (l.take (k + 1)) = some t' := by
  obtain ⟨t', ht'⟩ := go_take h (k + 1)
  rw [List.take_succ_eq_append_getElem hk, go_append, ht] at ht'
  simp only [Option.bind_some, go] at ht'
  cases e : stp t (l[k]).toNat with
  | none => rw [e] at ht'; cases ht'
  | some q =>
    rw [e] at ht'
    simp only [Option.bind_some] at ht'
    refine ⟨q, rfl, ?_⟩
    rw [List.take_succ_eq_append_getElem hk, go_append, ht]
    simp [go, e]
theorem up_eq (n : Nat) (c : UInt8) (hc : Dig c) (hn : n < 100000000) : up n c.toNat = ((n * 10 + (c.toNat - 48) : Nat) : Int) := by
  simp only [Dig] at hc
  unfold up wrap64
  omega
theorem val_lt : ∀ (ds : List UInt8), (∀ c ∈ ds, Dig c) → val ds < 10 ^ ds.length := by
  intro ds
  have aux : ∀ (n : Nat) (ds : List UInt8), ds.length = n → (∀ c ∈ ds, Dig c) → val ds < 10 ^ ds.length := by
    intro n
    induction n with
    | zero => intro ds hl _; rw [List.eq_nil_of_length_eq_zero hl]; decide
    | succ n ih =>
      intro ds hl hd
      have hne : ds ≠ [] := fun e => by rw [e] at hl; cases hl
      obtain ⟨l, c, rfl⟩ : ∃ l c, ds = l ++ [c] := snoc_of hne
      have h1 := ih l (by simpa using hl) (fun x hx => hd x (by simp [hx]))
      have h2 := hd c (by simp)
      simp only [Dig] at h2
      rw [val_snoc, List.length_append, List.length_singleton, Nat.pow_succ]
      omega
  exact aux _ ds rfl
theorem go_digits0 (ds : List UInt8) (hd : ∀ c ∈ ds, Dig c) (hl : ds.length ≤ 8) (b : Int) : go (0, 0, b) ds = some (0, (val ds : Int), b) := by
  have aux : ∀ k, k ≤ ds.length → go (0, 0, b) (ds.take k) = some (0, (val (ds.take k) : Int), b) := by
    intro k
    induction k with
    | zero => intro _; simp [go, val]
    | succ k ih =>
      intro hk
      rw [List.take_succ_eq_append_getElem (by omega), go_append, ih (by omega), val_snoc]
      have hc := hd (ds[k]'(by omega)) (by simp)
      have hv : val (ds.take k) < 100000000 := by
        have := val_lt (ds.take k) (fun c hc => hd c (List.mem_of_mem_take hc))
        have h2 : 10 ^ (ds.take k).length ≤ 10 ^ 8 := Nat.pow_le_pow_right (by decide) (by simp; omega)
        omega
      have hu := up_eq _ _ hc hv
      simp only [Dig] at hc
      simp only [Option.bind_some, go, stp]
      rw [if_neg (by omega), if_pos (by omega), if_pos trivial, hu]
      rfl
  have := aux ds.length (Nat.le_refl _)
  rwa [List.take_length] at this
theorem go_digits1 (ds : List UInt8) (hd : ∀ c ∈ ds, Dig c) (hl : ds.length ≤ 8) (a : Int) : go (1, a, 0) ds = some (1, a, (val ds : Int)) := by
  have aux : ∀ k, k ≤ ds.length → go (1, a, 0) (ds.take k) = some (1, a, (val (ds.take k) : Int)) := by
    intro k
    induction k with
    | zero => intro _; simp [go, val]
    | succ k ih =>
      intro hk
      rw [List.take_succ_eq_append_getElem (by omega), go_append, ih (by omega), val_snoc]
      have hc := hd (ds[k]'(by omega)) (by simp)
      have hv : val (ds.take k) < 100000000 := by
        have := val_lt (ds.take k) (fun c hc => hd c (List.mem_of_mem_take hc))
        have h2 : 10 ^ (ds.take k).length ≤ 10 ^ 8 := Nat.pow_le_pow_right (by decide) (by simp; omega)
        omega
      have hu := up_eq _ _ hc hv
      simp only [Dig] at hc
      simp only [Option.bind_some, go, stp]
      rw [if_neg (by omega), if_pos (by omega), if_neg (by omega), hu]
      rfl
  have := aux ds.length (Nat.le_refl _)
  rwa [List.take_length] at this
/-- What of a head is read ahead of the byte that ends it. -/
def partL (w h : Int) : List UInt8 := [80, 54, 10] ++ (itoa w ++ ([32] ++ itoa h))
theorem headL_part (w h : Int) : headL w h = partL w h ++ [10, 50, 53, 53, 10] := by simp [headL, partL]
theorem go_part {w h : Int} (a1 : Side w) (a2 : Side h) : go (-1, 0, 0) (partL w h) = some (1, w, h) := by
  have l1 := side_len a1
  have l2 := side_len a2
  have v1 : ((val (itoa w) : Nat) : Int) = w := by rw [itoa_side a1, val_dec]; have := a1.1; omega
  have v2 : ((val (itoa h) : Nat) : Int) = h := by rw [itoa_side a2, val_dec]; have := a2.1; omega
  unfold partL
  rw [go_append, show go (-1, 0, 0) [80, 54, 10] = some (0, 0, 0) by decide]
  simp only [Option.bind_some]
  rw [go_append, go_digits0 _ (side_dig a1) (by omega), v1]
  simp only [Option.bind_some]
  rw [go_append, show go (0, w, 0) [32] = some (1, w, 0) by simp [go, stp]]
  simp only [Option.bind_some]
  rw [go_digits1 _ (side_dig a2) (by omega), v2]
theorem part_ascii {w h : Int} (a1 : Side w) (a2 : Side h) : ∀ c ∈ partL w h, c.toNat < 128 := by
  intro c hc
  simp only [partL, List.mem_append, List.mem_cons, List.not_mem_nil, or_false] at hc
  rcases hc with (rfl | rfl | rfl) | hc | rfl | hc
  · decide
  · decide
  · decide
  · have := (side_dig a1 c hc).2; omega
  · decide
  · have := (side_dig a2 c hc).2; omega
end Go.Proofs.YtokfbeikpbnpgaaDoor
