/-
  Numbers by limbs to a base, the lowest first: their values, trimmed limbs, comparison, sums, differences, products. No program in this text.
-/
import Derived.RowKit
import Derived.Test.YtafmfnpjhhaikaaGreatDoorRows
import Derived.Test.YtafmfnpjhhaikaaGreatDoorShelf
import Derived.WalkKit
import Derived.WalkSpells
import Derived.WalkLawsBesides
import Derived.Lib.ConvBytes
import Derived.Lib.Hide
import Derived.ArgAppend
import Derived.Lib.AppendStr
import Derived.Lib.AppendIntMem
import Derived.BigQuiet
import Derived.Deep.QuietTactic
import Derived.Deep.RegionHeld3
import Derived.Deep.AppendLies
import Derived.Deep.CutRange
import Derived.Laws.OwnMore
import Derived.Deep.MidRow
import Derived.Deep.LoopGhost
namespace Go.Proofs.YtafmfnpjhhaikaaGreatDoor
/-- The value of limbs to a base. -/
def valB (B : Nat) : List Nat → Nat
  | [] => 0
  | x :: r => x + B * valB B r
/-- The limbs of a number. -/
def limB (B n : Nat) : List Nat := if _h : n = 0 ∨ B < 2 then [] else n % B :: limB B (n / B)
termination_by n
decreasing_by exact Nat.div_lt_self (by omega) (by omega)
/-- Limbs without the highest ones that are nought. -/
def trimL : List Nat → List Nat
  | [] => []
  | x :: r => if trimL r = [] ∧ x = 0 then [] else x :: trimL r
def AllB (B : Nat) (l : List Nat) : Prop := ∀ x ∈ l, x < B
theorem lim_zero (B : Nat) : limB B 0 = [] := by rw [limB, dif_pos (.inl rfl)]
theorem lim_pos {B n : Nat} (hB : 2 ≤ B) (hn : 0 < n) : limB B n = n % B :: limB B (n / B) := by rw [limB, dif_neg (by omega)]
theorem val_app (B : Nat) : ∀ a b : List Nat, valB B (a ++ b) = valB B a + B ^ a.length * valB B b
  | [], b => by simp [valB]
  | x :: a, b => by
    rw [List.cons_append, valB, valB, val_app B a b, List.length_cons, Nat.pow_succ, Nat.mul_add, Nat.mul_comm (B ^ a.length) B, Nat.mul_assoc]
    omega
theorem val_snoc (B : Nat) (a : List Nat) (x : Nat) : valB B (a ++ [x]) = valB B a + B ^ a.length * x := by rw [val_app]; simp [valB]
theorem val_lt {B : Nat} : ∀ {l : List Nat}, AllB B l → valB B l < B ^ l.length
  | [], _ => by simp [valB]
  | x :: r, h => by
    have h1 := h x (by simp)
    have h2 := val_lt (l := r) fun y hy => h y (by simp [hy])
    rw [valB, List.length_cons, Nat.pow_succ]
    have h3 : B * (valB B r + 1) ≤ B * B ^ r.length := Nat.mul_le_mul_left _ h2
    rw [Nat.mul_add, Nat.mul_one] at h3
    rw [Nat.mul_comm (B ^ r.length) B]
    omega
theorem val_zeros (B : Nat) : ∀ n, valB B (List.replicate n 0) = 0
  | 0 => rfl
  | n + 1 => by rw [List.replicate_succ, valB, val_zeros B n]; rfl
theorem val_lim {B : Nat} (hB : 2 ≤ B) (n : Nat) : valB B (limB B n) = n := by
  induction n using Nat.strongRecOn with
  | _ n ih =>
    by_cases h : n = 0
    · subst h; rw [lim_zero]; rfl
    · rw [lim_pos hB (by omega), valB, ih (n / B) (Nat.div_lt_self (by omega) (by omega)), Nat.add_comm]
      exact Nat.div_add_mod n B
theorem lim_all {B : Nat} (hB : 2 ≤ B) (n : Nat) : AllB B (limB B n) := by
  induction n using Nat.strongRecOn with
  | _ n ih =>
    by_cases h : n = 0
    · subst h; rw [lim_zero]; intro x hx; simp at hx
    · rw [lim_pos hB (by omega)]
      intro x hx
      rcases List.mem_cons.1 hx with rfl | hx
      · exact Nat.mod_lt _ (by omega)
      · exact ih (n / B) (Nat.div_lt_self (by omega) (by omega)) x hx
theorem val_trim (B : Nat) : ∀ l, valB B (trimL l) = valB B l
  | [] => rfl
  | x :: r => by
    have ih := val_trim B r
    rw [trimL]
    split
    · rename_i h
      rw [h.1] at ih
      have e : valB B ([] : List Nat) = 0 := rfl
      rw [e] at ih ⊢
      rw [valB, ← ih, h.2]
      simp
    · rw [valB, valB, ih]
theorem trim_nil {B : Nat} (hB : 0 < B) : ∀ {l}, valB B l = 0 → trimL l = []
  | [], _ => rfl
  | x :: r, h => by
    rw [valB] at h
    have h1 : x = 0 := by omega
    have h2 : valB B r = 0 := by
      have h3 : B * valB B r = 0 := by omega
      rcases Nat.mul_eq_zero.1 h3 with h3 | h3 <;> omega
    rw [trimL, if_pos ⟨trim_nil hB h2, h1⟩]
theorem lim_val {B : Nat} (hB : 2 ≤ B) : ∀ {l : List Nat}, AllB B l → limB B (valB B l) = trimL l
  | [], _ => lim_zero B
  | x :: r, h => by
    have h1 := h x (by simp)
    have ih := lim_val hB (l := r) fun y hy => h y (by simp [hy])
    by_cases hz : valB B (x :: r) = 0
    · rw [hz, lim_zero, trim_nil (by omega) hz]
    · have e1 : valB B (x :: r) % B = x := by rw [valB, Nat.add_mul_mod_self_left, Nat.mod_eq_of_lt h1]
      have e2 : valB B (x :: r) / B = valB B r := by rw [valB, Nat.add_mul_div_left _ _ (by omega), Nat.div_eq_of_lt h1]; omega
      rw [lim_pos hB (by omega), e1, e2, ih, trimL, if_neg]
      rintro ⟨h2, rfl⟩
      rw [valB, ← val_trim, h2] at hz
      exact hz rfl
theorem trim_lim {B : Nat} (hB : 2 ≤ B) (n : Nat) : trimL (limB B n) = limB B n := by rw [← lim_val hB (lim_all hB n), val_lim hB]
theorem trim_trim : ∀ l, trimL (trimL l) = trimL l
  | [] => rfl
  | x :: r => by
    have ih := trim_trim r
    rw [trimL]
    split
    · rfl
    · rename_i h
      rw [trimL, ih, if_neg h]
theorem trim_prefix : ∀ l : List Nat, trimL l = l.take (trimL l).length
  | [] => rfl
  | x :: r => by
    have ih := trim_prefix r
    rw [trimL]
    split
    · rfl
    · rw [List.length_cons, List.take_succ_cons, ← ih]
theorem trim_len (l : List Nat) : (trimL l).length ≤ l.length := by
  have := congrArg List.length (trim_prefix l)
  rw [List.length_take] at this
  omega
theorem trim_all {B : Nat} {l : List Nat} (h : AllB B l) : AllB B (trimL l) := fun x hx => by
  rw [trim_prefix] at hx
  exact h x (List.mem_of_mem_take hx)
theorem trim_snoc_zero : ∀ l : List Nat, trimL (l ++ [0]) = trimL l
  | [] => rfl
  | x :: r => by rw [List.cons_append, trimL, trimL, trim_snoc_zero r]
theorem trim_snoc_pos {x : Nat} (hx : x ≠ 0) : ∀ l : List Nat, trimL (l ++ [x]) = l ++ [x]
  | [] => by rw [List.nil_append, trimL, if_neg (by simp [hx])]; rfl
  | y :: r => by rw [List.cons_append, trimL, trim_snoc_pos hx r, if_neg (by simp)]
theorem trim_take_zero {l : List Nat} {k : Nat} (h : l[k]? = some 0) : trimL (l.take (k + 1)) = trimL (l.take k) := by
  obtain ⟨hlt, he⟩ := List.getElem?_eq_some_iff.1 h
  rw [List.take_succ_eq_append_getElem hlt, he, trim_snoc_zero]
theorem trim_take_pos {l : List Nat} {k x : Nat} (h : l[k]? = some x) (hx : x ≠ 0) : trimL (l.take (k + 1)) = l.take (k + 1) := by
  obtain ⟨hlt, he⟩ := List.getElem?_eq_some_iff.1 h
  rw [List.take_succ_eq_append_getElem hlt, he, trim_snoc_pos hx]
theorem trim_last {l : List Nat} {k x : Nat} (ht : trimL l = l) (hk : l.length = k + 1) (h : l[k]? = some x) : x ≠ 0 := by
  rintro rfl
  have h1 := trim_take_zero h
  rw [← hk, List.take_length, ht] at h1
  have h2 := trim_len (l.take k)
  rw [← h1, List.length_take] at h2
  omega
theorem lim_len {B : Nat} (hB : 2 ≤ B) {n k : Nat} (h : n < B ^ k) : (limB B n).length ≤ k := by
  induction k generalizing n with
  | zero =>
    have : n = 0 := by simpa using h
    subst this
    rw [lim_zero]; simp
  | succ k ih =>
    by_cases hn : n = 0
    · subst hn; rw [lim_zero]; simp
    · rw [lim_pos hB (by omega), List.length_cons]
      have : n / B < B ^ k := by
        rw [Nat.div_lt_iff_lt_mul (by omega)]
        rw [Nat.pow_succ] at h
        exact h
      have := ih this
      omega
theorem lim_lt {B : Nat} (hB : 2 ≤ B) {n k : Nat} (h : (limB B n).length ≤ k) : n < B ^ k := by
  have h1 := val_lt (lim_all hB n)
  rw [val_lim hB] at h1
  exact Nat.lt_of_lt_of_le h1 (Nat.pow_le_pow_right (by omega) h)
theorem lim_nil {B : Nat} (hB : 2 ≤ B) {n : Nat} : limB B n = [] ↔ n = 0 := by
  constructor
  · intro h
    have := val_lim hB n
    rw [h] at this
    exact this.symm
  · rintro rfl; exact lim_zero B
theorem lim_inj {B : Nat} (hB : 2 ≤ B) {m n : Nat} (h : limB B m = limB B n) : m = n := by
  rw [← val_lim hB m, h, val_lim hB]
theorem lim_small {B n : Nat} (hB : 2 ≤ B) (h0 : 0 < n) (h : n < B) : limB B n = [n] := by
  rw [lim_pos hB h0, Nat.mod_eq_of_lt h, Nat.div_eq_of_lt h, lim_zero]
theorem val_ge {B : Nat} {l : List Nat} {k : Nat} (ht : trimL l = l) (hk : l.length = k + 1) : B ^ k ≤ valB B l := by
  obtain ⟨x, hx⟩ : ∃ x, l[k]? = some x := ⟨_, List.getElem?_eq_getElem (by omega)⟩
  have h0 := trim_last ht hk hx
  obtain ⟨hlt, he⟩ := List.getElem?_eq_some_iff.1 hx
  have e : l = l.take k ++ [x] := by
    rw [← he, ← List.take_succ_eq_append_getElem hlt, List.take_of_length_le (by omega)]
  rw [e, val_snoc, List.length_take, Nat.min_eq_left (by omega)]
  have : B ^ k * 1 ≤ B ^ k * x := Nat.mul_le_mul_left _ (by omega)
  omega
/-- A limb; nought beyond the highest one. -/
def limbL (l : List Nat) (i : Nat) : Nat := l[i]?.getD 0
theorem limb_lt {B : Nat} (hB : 0 < B) {l : List Nat} (h : AllB B l) (i : Nat) : limbL l i < B := by
  unfold limbL
  cases hx : l[i]? with
  | none => exact hB
  | some x => exact h x (List.mem_of_getElem? hx)
theorem val_take (B : Nat) (l : List Nat) (i : Nat) : valB B (l.take (i + 1)) = valB B (l.take i) + B ^ i * limbL l i := by
  unfold limbL
  cases hx : l[i]? with
  | none =>
    have : l.length ≤ i := by simpa using hx
    rw [List.take_of_length_le this, List.take_of_length_le (by omega)]; simp
  | some x =>
    obtain ⟨hlt, he⟩ := List.getElem?_eq_some_iff.1 hx
    rw [List.take_succ_eq_append_getElem hlt, he, val_snoc, List.length_take, Nat.min_eq_left (by omega)]
    rfl
theorem all_snoc {B : Nat} {l : List Nat} {x : Nat} (h : AllB B l) (hx : x < B) : AllB B (l ++ [x]) := fun y hy => by
  rcases List.mem_append.1 hy with hy | hy
  · exact h y hy
  · rw [List.mem_singleton] at hy; subst hy; exact hx
theorem add_step {B c i : Nat} {a b o : List Nat} (hl : o.length = i) (h : valB B o + c * B ^ i = valB B (a.take i) + valB B (b.take i)) :
    valB B (o ++ [(limbL a i + limbL b i + c) % B]) + (limbL a i + limbL b i + c) / B * B ^ (i + 1) = valB B (a.take (i + 1)) + valB B (b.take (i + 1)) := by
  rw [val_snoc, val_take, val_take, hl, Nat.pow_succ]
  have e := Nat.div_add_mod (limbL a i + limbL b i + c) B
  have e2 : B ^ i * (B * ((limbL a i + limbL b i + c) / B) + (limbL a i + limbL b i + c) % B) = B ^ i * (limbL a i + limbL b i + c) := by rw [e]
  have e3 : (limbL a i + limbL b i + c) / B * (B ^ i * B) = B ^ i * (B * ((limbL a i + limbL b i + c) / B)) := by
    rw [Nat.mul_comm, Nat.mul_assoc]
  rw [Nat.mul_add, Nat.mul_add, Nat.mul_add] at e2
  rw [e3]
  have e4 : c * B ^ i = B ^ i * c := Nat.mul_comm _ _
  omega
theorem sub_step {B c i x y s d : Nat} {a b o : List Nat} (hl : o.length = i) (h : valB B o + valB B (b.take i) = valB B (a.take i) + c * B ^ i) (hx : limbL a i = x) (hy : limbL b i = y) (hs : s + y + c = x + d * B) :
    valB B (o ++ [s]) + valB B (b.take (i + 1)) = valB B (a.take (i + 1)) + d * B ^ (i + 1) := by
  rw [val_snoc, val_take, val_take, hl, hx, hy, Nat.pow_succ]
  have e1 : B ^ i * (s + y + c) = B ^ i * (x + d * B) := by rw [hs]
  rw [Nat.mul_add, Nat.mul_add, Nat.mul_add] at e1
  have e2 : d * (B ^ i * B) = B ^ i * (d * B) := by rw [← Nat.mul_assoc, ← Nat.mul_assoc, Nat.mul_comm d]
  have e3 : c * B ^ i = B ^ i * c := Nat.mul_comm _ _
  omega
theorem val_set (B : Nat) : ∀ (l : List Nat) (j v : Nat), j < l.length → valB B (l.set j v) + B ^ j * limbL l j = valB B l + B ^ j * v
  | [], j, v, h => by simp at h
  | x :: r, 0, v, _ => by simp [valB, limbL]; omega
  | x :: r, j + 1, v, h => by
    have ih := val_set B r j v (by simpa using h)
    have e : limbL (x :: r) (j + 1) = limbL r j := by simp [limbL]
    rw [List.set_cons_succ, valB, valB, e, Nat.pow_succ]
    have e1 : B ^ j * B * limbL r j = B * (B ^ j * limbL r j) := by rw [Nat.mul_comm (B ^ j) B, Nat.mul_assoc]
    have e2 : B ^ j * B * v = B * (B ^ j * v) := by rw [Nat.mul_comm (B ^ j) B, Nat.mul_assoc]
    have e3 : B * (valB B (r.set j v) + B ^ j * limbL r j) = B * (valB B r + B ^ j * v) := by rw [ih]
    rw [Nat.mul_add, Nat.mul_add] at e3
    omega
theorem all_set {B : Nat} {l : List Nat} {j v : Nat} (h : AllB B l) (hv : v < B) : AllB B (l.set j v) := fun x hx => by
  rcases List.mem_or_eq_of_mem_set hx with hx | rfl
  · exact h x hx
  · exact hv
/-- Which number is greater. -/
def cmpN (a b : Nat) : Int := if a < b then -1 else if a = b then 0 else 1
theorem val_drop (B : Nat) (l : List Nat) (i : Nat) (h : i ≤ l.length) : valB B l = valB B (l.take i) + B ^ i * valB B (l.drop i) := by
  have := val_app B (l.take i) (l.drop i)
  rw [List.take_append_drop, List.length_take, Nat.min_eq_left h] at this
  exact this
theorem cmp_at {B : Nat} {a b : List Nat} {i x y : Nat} (ha : AllB B a) (hl : a.length = b.length) (hd : a.drop (i + 1) = b.drop (i + 1)) (hx : a[i]? = some x) (hy : b[i]? = some y) (hxy : x < y) : valB B a < valB B b := by
  obtain ⟨h1, e1⟩ := List.getElem?_eq_some_iff.1 hx
  obtain ⟨h2, e2⟩ := List.getElem?_eq_some_iff.1 hy
  rw [val_drop B a (i + 1) (by omega), val_drop B b (i + 1) (by omega), hd, val_take, val_take]
  have h3 : limbL a i = x := by simp [limbL, hx]
  have h4 : limbL b i = y := by simp [limbL, hy]
  rw [h3, h4]
  have h5 : valB B (a.take i) < B ^ i := by
    have := val_lt (B := B) (l := a.take i) fun z hz => ha z (List.mem_of_mem_take hz)
    rwa [List.length_take, Nat.min_eq_left (by omega)] at this
  have h6 : B ^ i * (x + 1) ≤ B ^ i * y := Nat.mul_le_mul_left _ hxy
  rw [Nat.mul_add] at h6
  omega
theorem cmp_len {B : Nat} (hB : 2 ≤ B) {a b : List Nat} (ha : AllB B a) (hb : trimL b = b) (hl : a.length < b.length) : valB B a < valB B b := by
  have h1 := val_lt ha
  have h2 := val_ge (B := B) (k := b.length - 1) hb (by omega)
  have h3 : B ^ a.length ≤ B ^ (b.length - 1) := Nat.pow_le_pow_right (by omega) (by omega)
  omega
theorem dm_of {B n q r : Nat} (h : n = q * B + r) (hr : r < B) : n / B = q ∧ n % B = r := by
  subst h
  constructor
  · rw [Nat.add_comm, Nat.add_mul_div_right _ _ (by omega), Nat.div_eq_of_lt hr]; omega
  · rw [Nat.add_comm, Nat.add_mul_mod_self_right, Nat.mod_eq_of_lt hr]
theorem mul_limb {B x y c o hi lo : Nat} (hB : 0 < B) (h1 : hi * B + lo = x * y) :
    (o + (lo + c) % B) % B = (x * y + c + o) % B ∧ hi + (lo + c) / B + (o + (lo + c) % B) / B = (x * y + c + o) / B := by
  have h2 := Nat.div_add_mod (lo + c) B
  have h3 := Nat.div_add_mod (o + (lo + c) % B) B
  have h4 := Nat.mod_lt (o + (lo + c) % B) hB
  generalize (o + (lo + c) % B) / B = d' at *
  generalize he : (o + (lo + c) % B) % B = o' at *
  generalize (lo + c) / B = d at *
  have h5 : x * y + c + o = (hi + d + d') * B + o' := by
    rw [Nat.add_mul, Nat.add_mul, Nat.mul_comm d B, Nat.mul_comm d' B]
    omega
  have h6 := dm_of h5 h4
  exact ⟨h6.2.symm, h6.1.symm⟩
theorem mul_bound {B x y c o : Nat} (hx : x < B) (hy : y < B) (hc : c < B) (ho : o < B) : (x * y + c + o) / B < B := by
  rw [Nat.div_lt_iff_lt_mul (by omega)]
  obtain ⟨b, rfl⟩ : ∃ b, B = b + 1 := ⟨B - 1, by omega⟩
  have h1 : x * y ≤ b * b := Nat.mul_le_mul (by omega) (by omega)
  have h2 : (b + 1) * (b + 1) = b * b + 2 * b + 1 := by rw [Nat.add_mul, Nat.mul_add]; omega
  omega
theorem mul_step {B i k c c' o' x y V : Nat} {out b : List Nat} (hlen : i + k < out.length) (hy : limbL b k = y) (h : c' * B + o' = x * y + c + limbL out (i + k))
    (hv : valB B out + B ^ (i + k) * c = V + x * B ^ i * valB B (b.take k)) : valB B (out.set (i + k) o') + B ^ (i + k + 1) * c' = V + x * B ^ i * valB B (b.take (k + 1)) := by
  have h1 := val_set B out (i + k) o' hlen
  rw [val_take, hy]
  have h2 : B ^ (i + k) * (c' * B + o') = B ^ (i + k) * (x * y + c + limbL out (i + k)) := by rw [h]
  rw [Nat.pow_succ]
  rw [Nat.pow_add] at *
  grind
theorem mul_row {B i m c x : Nat} {out a b : List Nat} (hlen : i + m < out.length) (hx : limbL a i = x) (h0 : limbL out (i + m) = 0) (hb : b.length = m)
    (hv : valB B out + B ^ (i + m) * c = valB B (a.take i) * valB B b + x * B ^ i * valB B (b.take m)) : valB B (out.set (i + m) c) = valB B (a.take (i + 1)) * valB B b := by
  have h1 := val_set B out (i + m) c hlen
  rw [h0] at h1
  rw [val_take, hx]
  rw [← hb, List.take_length] at hv
  rw [hb] at hv
  grind
theorem shl_step {B W U f i x : Nat} {out a : List Nat} (hWU : W * U = B) (hW : 0 < W) (hlen : f + i < out.length) (h0 : limbL out (f + i) = 0) (hx : limbL a i = x) {y : Nat}
    (hv : valB B out + B ^ (f + i) * (y / U) = B ^ f * W * valB B (a.take i)) : valB B (out.set (f + i) (x * W % B + y / U)) + B ^ (f + i + 1) * (x / U) = B ^ f * W * valB B (a.take (i + 1)) := by
  have h1 := val_set B out (f + i) (x * W % B + y / U) hlen
  rw [h0] at h1
  rw [val_take, hx]
  have h2 : x * W % B + B * (x / U) = x * W := by
    have h3 := Nat.div_add_mod (x * W) B
    have h4 : x * W / B = x / U := by
      rw [← hWU, Nat.mul_comm W U]
      exact Nat.mul_div_mul_right _ _ hW
    rw [h4] at h3
    omega
  have h3 : B ^ (f + i) * (x * W % B + B * (x / U)) = B ^ (f + i) * (x * W) := by rw [h2]
  rw [Nat.pow_succ]
  rw [Nat.pow_add] at *
  grind
theorem shr_step {B W U j : Nat} {o a : List Nat} (hWU : W * U = B) (hl : o.length = j)
    (hv : W * valB B o + limbL a 0 % W = valB B (a.take j) + B ^ j * (limbL a j % W)) :
    W * valB B (o ++ [limbL a j / W + limbL a (j + 1) % W * U]) + limbL a 0 % W = valB B (a.take (j + 1)) + B ^ (j + 1) * (limbL a (j + 1) % W) := by
  rw [val_snoc, val_take, hl, Nat.pow_succ]
  have h1 := Nat.div_add_mod (limbL a j) W
  have h2 : B ^ j * (W * (limbL a j / W) + limbL a j % W) = B ^ j * limbL a j := by rw [h1]
  grind
theorem small_step {B b q r r' x Q A : Nat} (h : A = b * Q + r) (hq : q * b + r' = r * B + x) : x + B * A = b * (q + B * Q) + r' := by
  subst h
  grind
theorem less_step {B f i c c' q u' x y : Nat} {L v : List Nat} {V0 : Nat} (hlen : f + i < L.length) (hx : limbL L (f + i) = x) (hy : limbL v i = y) (h : u' + q * y + c = x + B * c')
    (hv : valB B L + B ^ f * (q * valB B (v.take i)) = V0 + B ^ (f + i) * c) : valB B (L.set (f + i) u') + B ^ f * (q * valB B (v.take (i + 1))) = V0 + B ^ (f + i + 1) * c' := by
  have h1 := val_set B L (f + i) u' hlen
  rw [hx] at h1
  rw [val_take, hy]
  have h2 : B ^ (f + i) * (u' + q * y + c) = B ^ (f + i) * (x + B * c') := by rw [h]
  rw [Nat.pow_succ]
  rw [Nat.pow_add] at *
  grind
theorem less_last {B f n c d q u' x : Nat} {L v : List Nat} {V0 : Nat} (hn : v.length = n) (hlen : f + n < L.length) (hx : limbL L (f + n) = x) (h : u' + c = x + B * d)
    (hv : valB B L + B ^ f * (q * valB B (v.take n)) = V0 + B ^ (f + n) * c) : valB B (L.set (f + n) u') + B ^ f * (q * valB B v) = V0 + B ^ (f + n + 1) * d := by
  have h1 := val_set B L (f + n) u' hlen
  rw [hx] at h1
  rw [← hn, List.take_length, hn] at hv
  have h2 : B ^ (f + n) * (u' + c) = B ^ (f + n) * (x + B * d) := by rw [h]
  rw [Nat.pow_succ]
  rw [Nat.pow_add] at *
  grind
theorem back_step {B f i c c' u' x y : Nat} {L v : List Nat} {V0 : Nat} (hlen : f + i < L.length) (hx : limbL L (f + i) = x) (hy : limbL v i = y) (h : u' + B * c' = x + y + c)
    (hv : valB B L + B ^ (f + i) * c = V0 + B ^ f * valB B (v.take i)) : valB B (L.set (f + i) u') + B ^ (f + i + 1) * c' = V0 + B ^ f * valB B (v.take (i + 1)) := by
  have h1 := val_set B L (f + i) u' hlen
  rw [hx] at h1
  rw [val_take, hy]
  have h2 : B ^ (f + i) * (u' + B * c') = B ^ (f + i) * (x + y + c) := by rw [h]
  rw [Nat.pow_succ]
  rw [Nat.pow_add] at *
  grind
theorem back_last {B f n c c' u' x : Nat} {L v : List Nat} {V0 : Nat} (hn : v.length = n) (hlen : f + n < L.length) (hx : limbL L (f + n) = x) (h : u' + B * c' = x + c)
    (hv : valB B L + B ^ (f + n) * c = V0 + B ^ f * valB B (v.take n)) : valB B (L.set (f + n) u') + B ^ (f + n + 1) * c' = V0 + B ^ f * valB B v := by
  have h1 := val_set B L (f + n) u' hlen
  rw [hx] at h1
  rw [← hn, List.take_length, hn] at hv
  have h2 : B ^ (f + n) * (u' + B * c') = B ^ (f + n) * (x + c) := by rw [h]
  rw [Nat.pow_succ]
  rw [Nat.pow_add] at *
  grind
theorem val_three {B n : Nat} {p : List Nat} (hp : AllB B p) (hl : p.length = n + 3) : valB B p < ((limbL p (n + 2) * B + limbL p (n + 1)) * B + limbL p n + 1) * B ^ n := by
  have e : p = p.take (n + 3) := by rw [← hl, List.take_length]
  have h1 : valB B (p.take n) < B ^ n := by
    have := val_lt (B := B) (l := p.take n) fun z hz => hp z (List.mem_of_mem_take hz)
    rwa [List.length_take, Nat.min_eq_left (by omega)] at this
  rw [e, val_take, val_take, val_take]
  rw [← e]
  simp only [Nat.pow_succ]
  clear e hl hp
  generalize valB B (p.take n) = x0 at *
  generalize limbL p n = x1 at *
  generalize limbL p (n + 1) = x2 at *
  generalize limbL p (n + 2) = x3 at *
  generalize B ^ n = E at *
  grind
theorem val_two {B n : Nat} {v : List Nat} (hl : v.length = n + 2) : (limbL v (n + 1) * B + limbL v n) * B ^ n ≤ valB B v := by
  have e : v = v.take (n + 2) := by rw [← hl, List.take_length]
  rw [e, val_take, val_take]
  rw [← e]
  simp only [Nat.pow_succ]
  clear e hl
  generalize valB B (v.take n) = x0 at *
  generalize limbL v n = x1 at *
  generalize limbL v (n + 1) = x2 at *
  generalize B ^ n = E at *
  grind
theorem guess_first {B E P V T v1 u0 v0 : Nat} (hP : P < (T * B + u0 + 1) * E) (hu : u0 < B) (hV : (v1 * B + v0) * E ≤ V) (h1 : 0 < v1) : P / V ≤ T / v1 := by
  rw [Nat.le_div_iff_mul_le h1]
  have h2 : P / V * V ≤ P := Nat.div_mul_le_self P V
  have h3 : P / V * ((v1 * B + v0) * E) ≤ P / V * V := Nat.mul_le_mul_left _ hV
  generalize P / V = q at *
  have h4 : q * (v1 * B + v0) * E < (T * B + u0 + 1) * E := by rw [Nat.mul_assoc]; omega
  have h5 := Nat.lt_of_mul_lt_mul_right h4
  by_cases h6 : q * v1 ≤ T
  · exact h6
  · exfalso
    have h7 : (T + 1) * B ≤ q * v1 * B := Nat.mul_le_mul_right _ (by omega)
    have h8 : q * (v1 * B + v0) = q * v1 * B + q * v0 := by rw [Nat.mul_add, Nat.mul_assoc]
    rw [Nat.add_mul] at h7
    omega
theorem guess_next {B E P V q r u2 u1 u0 v1 v0 : Nat} (hP : P < ((u2 * B + u1) * B + u0 + 1) * E) (hV : (v1 * B + v0) * E ≤ V) (hq : q * v1 + r = u2 * B + u1) (h : r * B + u0 < q * v0) : P / V < q := by
  by_cases h6 : q ≤ P / V
  · exfalso
    have h2 : P / V * V ≤ P := Nat.div_mul_le_self P V
    have h3 : q * V ≤ P / V * V := Nat.mul_le_mul_right _ h6
    have h4 : q * ((v1 * B + v0) * E) ≤ q * V := Nat.mul_le_mul_left _ hV
    have h5 : q * (v1 * B + v0) * E < ((u2 * B + u1) * B + u0 + 1) * E := by rw [Nat.mul_assoc]; omega
    have h7 := Nat.lt_of_mul_lt_mul_right h5
    rw [← hq] at h7
    have h8 : q * (v1 * B + v0) = q * v1 * B + q * v0 := by rw [Nat.mul_add, Nat.mul_assoc]
    have h9 : (q * v1 + r) * B = q * v1 * B + r * B := Nat.add_mul _ _ _
    omega
  · omega
theorem digit_ok {E U V q R : Nat} (hE : 0 < E) (hV : 0 < V) (hq : U / (V * E) ≤ q) (h : R + E * (q * V) = U) : q = U / (V * E) ∧ R = U % (V * E) := by
  have h1 : q * (V * E) ≤ U := by
    have : q * (V * E) = E * (q * V) := by grind
    omega
  have h2 : q ≤ U / (V * E) := (Nat.le_div_iff_mul_le (Nat.mul_pos hV hE)).2 h1
  have h3 : q = U / (V * E) := by omega
  refine ⟨h3, ?_⟩
  have h4 := Nat.div_add_mod U (V * E)
  rw [← h3] at h4
  have : V * E * q = E * (q * V) := by grind
  omega
theorem digit_over {E F U V q R : Nat} (hE : 0 < E) (hV : 0 < V) (hR : R < F) (h : R + E * (q * V) = U + F) : U / (V * E) < q := by
  rw [Nat.div_lt_iff_lt_mul (Nat.mul_pos hV hE)]
  have : q * (V * E) = E * (q * V) := by grind
  omega
theorem digit_next {E B U0 U V Q : Nat} (h : U0 = V * Q * (B * E) + U) (hU : U < V * (B * E)) (hV : 0 < V) (hE : 0 < E) :
    U0 = V * (U / (V * E) + B * Q) * E + U % (V * E) ∧ U % (V * E) < V * E ∧ U / (V * E) < B := by
  have h4 := Nat.div_add_mod U (V * E)
  refine ⟨?_, Nat.mod_lt _ (Nat.mul_pos hV hE), ?_⟩
  · generalize U / (V * E) = q at *
    generalize U % (V * E) = r at *
    subst h
    grind
  · rw [Nat.div_lt_iff_lt_mul (Nat.mul_pos hV hE)]
    have : B * (V * E) = V * (B * E) := by grind
    omega
theorem shift_div {A b W : Nat} (hW : 0 < W) {Q R : Nat} (h : A * W = b * W * Q + R) (hR : R < b * W) : Q = A / b ∧ R = (A % b) * W := by
  have hb : 0 < b := by
    rcases Nat.eq_zero_or_pos b with rfl | h
    · simp at hR
    · exact h
  have h1 : Q = A * W / (b * W) := by
    have := (dm_of (B := b * W) (n := A * W) (q := Q) (r := R) (by rw [h, Nat.mul_comm Q]) hR).1
    exact this.symm
  rw [Nat.mul_div_mul_right _ _ hW] at h1
  refine ⟨h1, ?_⟩
  have h2 := (dm_of (B := b * W) (n := A * W) (q := Q) (r := R) (by rw [h, Nat.mul_comm Q]) hR).2
  rw [← h2, Nat.mul_mod_mul_right]
/-- The base of limbs of 64 bits, and of those of 32. -/
def B64 : Nat := 18446744073709551616
def B32 : Nat := 4294967296
theorem b64_two : 2 ≤ B64 := by decide
theorem b32_two : 2 ≤ B32 := by decide
theorem b64_pos : 0 < B64 := by decide
def sgnI (s : Bool) (n : Nat) : Int := if s = true then -(n : Int) else n
/-- The fraction that a sign and two numbers come to. -/
def ratOf (s : Bool) (n q : Nat) : Rat := mkRat (sgnI s n) (if q = 0 then 1 else q)
theorem sgn_abs (s : Bool) (n : Nat) : (sgnI s n).natAbs = n := by
  unfold sgnI
  split <;> omega
theorem sgn_of (x : Int) : sgnI (decide (x < 0)) x.natAbs = x := by
  unfold sgnI
  by_cases h : x < 0
  · rw [decide_eq_true h, if_pos rfl]; omega
  · rw [decide_eq_false h, if_neg (by simp)]; omega
theorem sgn_neg (s : Bool) (n : Nat) : sgnI (!s) n = -sgnI s n := by
  cases s <;> simp [sgnI]
theorem mk_parts (p : Int) {q : Nat} (hq : q ≠ 0) : (mkRat p q).num.natAbs = p.natAbs / Nat.gcd p.natAbs q ∧ (mkRat p q).den = q / Nat.gcd p.natAbs q ∧ ((mkRat p q).num < 0 ↔ p < 0) := by
  rw [Rat.num_mkRat, Rat.den_mkRat, if_neg hq, if_neg hq, Nat.gcd_comm q]
  have hg : 0 < Nat.gcd p.natAbs q := Nat.gcd_pos_of_pos_right _ (by omega)
  have hd : (Nat.gcd p.natAbs q : Int) ∣ p := Int.ofNat_dvd_left.2 (Nat.gcd_dvd_left _ _)
  refine ⟨?_, rfl, ?_⟩
  · obtain ⟨c, hc⟩ := hd
    generalize Nat.gcd p.natAbs q = g at *
    subst hc
    rw [Int.mul_ediv_cancel_left _ (by omega), Int.natAbs_mul, Int.natAbs_natCast, Nat.mul_div_cancel_left _ hg]
  · obtain ⟨c, hc⟩ := hd
    generalize Nat.gcd p.natAbs q = g at *
    subst hc
    rw [Int.mul_ediv_cancel_left _ (by omega)]
    constructor
    · intro h
      exact Int.mul_neg_of_pos_of_neg (by omega) h
    · intro h
      by_cases h2 : c < 0
      · exact h2
      · have : 0 ≤ (g : Int) * c := Int.mul_nonneg (by omega) (by omega)
        omega
theorem den_pos (x : Rat) : 0 < x.den := Nat.pos_of_ne_zero x.den_nz
theorem mk_self (x : Rat) : mkRat x.num x.den = x := Rat.mkRat_self x
theorem of_self (x : Rat) : ratOf (decide (x.num < 0)) x.num.natAbs x.den = x := by
  unfold ratOf
  rw [sgn_of, if_neg x.den_nz, mk_self]
theorem rat_add (x y : Rat) : x + y = mkRat (x.num * y.den + y.num * x.den) (x.den * y.den) := Rat.add_def' x y
theorem rat_mul (x y : Rat) : x * y = mkRat (x.num * y.num) (x.den * y.den) := Rat.mul_def' x y
theorem div_mk (p q : Int) : Rat.divInt p q = mkRat (if q < 0 then -p else p) q.natAbs := by
  by_cases h : q < 0
  · rw [if_pos h]
    obtain ⟨n, rfl⟩ : ∃ n : Nat, q = -(n : Int) := ⟨q.natAbs, by omega⟩
    rw [Rat.divInt_neg', Rat.divInt_ofNat, Int.natAbs_neg, Int.natAbs_natCast]
  · rw [if_neg h]
    obtain ⟨n, rfl⟩ : ∃ n : Nat, q = (n : Int) := ⟨q.natAbs, by omega⟩
    rw [Rat.divInt_ofNat, Int.natAbs_natCast]
theorem rat_div (x y : Rat) : x / y = mkRat (if y.num * x.den < 0 then -(x.num * y.den) else x.num * y.den) (y.num * x.den).natAbs := by
  have h1 : x / y = Rat.divInt x.num x.den * Rat.divInt y.den y.num := by rw [Rat.num_divInt_den, ← Rat.inv_def, ← Rat.div_def]
  rw [h1, Rat.divInt_mul_divInt, div_mk, Int.mul_comm y.num]
/-- Is a fraction less, the same, or greater? -/
def cmpR (x y : Rat) : Int := if x < y then -1 else if x = y then 0 else 1
def sgnN (x : Int) : Int := if x < 0 then -1 else if x = 0 then 0 else 1
theorem cmp_sgn (x y : Rat) : cmpR x y = sgnN (x.num * y.den - y.num * x.den) := by
  unfold cmpR sgnN
  have h1 := Rat.lt_iff x y
  have h2 : x = y ↔ x.num * y.den = y.num * x.den := by
    constructor
    · rintro rfl; rfl
    · intro h
      have := (Rat.mkRat_eq_iff x.den_nz y.den_nz).2 h
      rwa [mk_self, mk_self] at this
  generalize x.num * (y.den : Int) = a at *
  generalize y.num * (x.den : Int) = b at *
  by_cases h : x < y
  · rw [if_pos h]
    have := h1.1 h
    rw [if_pos (show a - b < 0 by omega)]
  · have h4 : ¬ a - b < 0 := fun e => h (h1.2 (by omega))
    rw [if_neg h, if_neg h4]
    by_cases h3 : x = y
    · rw [if_pos h3, if_pos (show a - b = 0 by have := h2.1 h3; omega)]
    · rw [if_neg h3, if_neg (show ¬ a - b = 0 from fun e => h3 (h2.2 (by omega)))]
theorem sgn_cmp (x : Rat) : sgnN x.num = cmpR x 0 := by
  rw [cmp_sgn]
  simp
/-- So many limbs hold a fraction's numbers. -/
def Sz (k : Nat) (x : Rat) : Prop := x.num.natAbs < B64 ^ k ∧ x.den < B64 ^ k
theorem Sz.mono {k m : Nat} {x : Rat} (h : Sz k x) (hm : k ≤ m) : Sz m x :=
  ⟨Nat.lt_of_lt_of_le h.1 (Nat.pow_le_pow_right b64_pos hm), Nat.lt_of_lt_of_le h.2 (Nat.pow_le_pow_right b64_pos hm)⟩
theorem sz_mk {k : Nat} {p : Int} {q : Nat} (hp : p.natAbs < B64 ^ k) (hq : q < B64 ^ k) (h0 : q ≠ 0) : Sz k (mkRat p q) := by
  obtain ⟨h1, h2, _⟩ := mk_parts p h0
  have h3 := Nat.div_le_self p.natAbs (Nat.gcd p.natAbs q)
  have h4 := Nat.div_le_self q (Nat.gcd p.natAbs q)
  exact ⟨by omega, by omega⟩
theorem mul_lt {a b m n : Nat} (ha : a < B64 ^ m) (hb : b < B64 ^ n) : a * b < B64 ^ (m + n) := by
  rw [Nat.pow_add]
  exact Nat.mul_lt_mul_of_lt_of_lt ha hb
theorem Sz.add {k m : Nat} {x y : Rat} (hx : Sz k x) (hy : Sz m y) : Sz (k + m + 1) (x + y) := by
  rw [rat_add]
  have h1 := mul_lt hx.1 hy.2
  have h2 := mul_lt hy.1 hx.2
  have h3 := mul_lt hx.2 hy.2
  rw [Nat.add_comm m k] at h2
  have h4 : B64 ^ (k + m + 1) = B64 ^ (k + m) * B64 := Nat.pow_succ ..
  have h5 : B64 ^ (k + m) * 2 ≤ B64 ^ (k + m) * B64 := Nat.mul_le_mul_left _ b64_two
  refine sz_mk ?_ ?_ (Nat.mul_ne_zero x.den_nz y.den_nz)
  · have h6 := Int.natAbs_add_le (x.num * y.den) (y.num * x.den)
    rw [Int.natAbs_mul, Int.natAbs_mul, Int.natAbs_natCast, Int.natAbs_natCast] at h6
    omega
  · omega
theorem Sz.neg {k : Nat} {x : Rat} (hx : Sz k x) : Sz k (-x) := ⟨by rw [Rat.neg_num, Int.natAbs_neg]; exact hx.1, by rw [Rat.neg_den]; exact hx.2⟩
theorem Sz.sub {k m : Nat} {x y : Rat} (hx : Sz k x) (hy : Sz m y) : Sz (k + m + 1) (x - y) := by
  rw [Rat.sub_eq_add_neg]
  exact hx.add hy.neg
theorem Sz.mul {k m : Nat} {x y : Rat} (hx : Sz k x) (hy : Sz m y) : Sz (k + m) (x * y) := by
  rw [rat_mul]
  refine sz_mk ?_ (mul_lt hx.2 hy.2) (Nat.mul_ne_zero x.den_nz y.den_nz)
  rw [Int.natAbs_mul]
  exact mul_lt hx.1 hy.1
theorem Sz.div {k m : Nat} {x y : Rat} (hx : Sz k x) (hy : Sz m y) (h0 : y.num ≠ 0) : Sz (k + m) (x / y) := by
  rw [rat_div]
  refine sz_mk ?_ ?_ ?_
  · have : (if y.num * x.den < 0 then -(x.num * y.den) else x.num * y.den).natAbs = (x.num * y.den).natAbs := by split <;> omega
    rw [this, Int.natAbs_mul, Int.natAbs_natCast]
    exact mul_lt hx.1 hy.2
  · rw [Int.natAbs_mul, Int.natAbs_natCast, Nat.mul_comm]
    exact mul_lt hx.2 hy.1
  · rw [Int.natAbs_mul, Int.natAbs_natCast]
    exact Nat.mul_ne_zero (by omega) x.den_nz
theorem sz_of {k : Nat} {s : Bool} {n q : Nat} (hn : n < B64 ^ k) (hq : q < B64 ^ k) (hk : 0 < k) : Sz k (ratOf s n q) := by
  unfold ratOf
  have h1 : 1 < B64 ^ k := Nat.lt_of_lt_of_le (by decide : 1 < B64 ^ 1) (Nat.pow_le_pow_right b64_pos hk)
  refine sz_mk (by rw [sgn_abs]; exact hn) ?_ ?_ <;> split <;> omega
end Go.Proofs.YtafmfnpjhhaikaaGreatDoor
namespace Go.Proofs.YtafmfnpjhhaikaaGreatDoor
open Go.RowKit
/-- Nothing of w0 has changed. -/
def Bel (w0 w : World) : Prop := Below w0.heap.size w0 w
theorem Bel.refl (w : World) : Bel w w := Below.refl _ _
theorem Bel.drew {w0 w : World} (h : Bel w0 w) : Bel w0 w.drew := Below.drew h
theorem Bel.alloc {w0 w : World} (h : Bel w0 w) (o : Obj) : Bel w0 (w.alloc o) := Below.alloc h (Below.size h) o
theorem Bel.then {w0 w w' : World} (h : Bel w0 w) (hb : Below w.heap.size w w') : Bel w0 w' := Below.trans h (hb.mono (Below.size h))
theorem Bel.at {w0 w w' : World} {g : Nat} (h : Bel w0 w) (hg : w0.heap.size ≤ g) (hb : Below g w w') : Bel w0 w' := Below.trans h (hb.mono hg)
theorem Bel.trans {w0 w w' : World} (h : Bel w0 w) (h' : Bel w w') : Bel w0 w' := h.then h'
theorem Bel.cell {w0 w : World} (h : Bel w0 w) {a : Addr} {v : Value} (hc : w0.cell? a = some v) : w.cell? a = some v := (Below.cell h (World.block_lt_of_cell? w0 a hc)).trans hc
theorem Bel.set {w0 w : World} (h : Bel w0 w) {p : Addr} (hp : w0.heap.size ≤ p.block) (u : Value) : Bel w0 (w.setCell p u) := Below.setCell h hp u
theorem Bel.size {w0 w : World} (h : Bel w0 w) : w0.heap.size ≤ w.heap.size := Below.size h
theorem Bel.own {w0 w : World} (h : Bel w0 w) {base e size n : Nat} {v : Value} {xs : List Value} (ho : w0.ownsRow base e size v n xs) : w.ownsRow base e size v n xs := by
  refine ⟨ho.1, ?_⟩
  rcases ho.2 with hn | ⟨g, cap, cur, rfl, hb, hgg, rest⟩
  · exact .inl hn
  · exact .inr ⟨g, cap, cur, rfl, hb, by rw [Below.block h g (Array.getElem?_eq_some_iff.1 hgg).1]; exact hgg, rest⟩
/-- All but one block (where there is one) of w is as it was. -/
def But (row : Option Nat) (w w' : World) : Prop := w.grownBy w' row
theorem But.bel {row : Option Nat} {w0 w w' : World} (h : Bel w0 w) (hg : But row w w') (hr : ∀ k, row = some k → w0.heap.size ≤ k) : Bel w0 w' := Below.grown h hg (Below.size h) hr
theorem cells_new (w : World) (cs : Array Value) (t : TypeId) (fr : Nat × Nat) : ∀ (j : Nat) (u : Value), cs.toList[j]? = some u → (w.alloc (.cells cs t fr)).cell? ((⟨w.heap.size, 0, none⟩ : Addr).add j) = some u := by
  intro j u hj
  rw [Addr.add_lit, Nat.zero_add, World.cell?_alloc_mark, ← Array.getElem?_toList]
  exact hj
theorem grown_alloc (w : World) (o : Obj) (row : Option Nat) : w.grownBy (w.alloc o) row := ⟨rfl, rfl, rfl, by simp, fun k hk _ => Below.heap_alloc _ _ _ hk⟩
theorem grown_trans {a b c : World} {row : Option Nat} (h : a.grownBy b row) (h' : b.grownBy c row) : a.grownBy c row :=
  ⟨h'.os.trans h.os, h'.tape.trans h.tape, h'.output.trans h.output, Nat.le_trans h.size h'.size, fun k hk hr => (h'.block k (Nat.lt_of_lt_of_le hk h.size) hr).trans (h.block k hk hr)⟩
theorem wpList_push {P : Program} {V : World} {ops : Array Oper} {rest : List Oper} {o : Oper} {a : Act} {Q : Exit → Act → World → Prop} (hgd : o.guard = none) (s x : Operand) (t : TypeId)
    (ho : o.op = .call { callee := .builtin .append, args := #[s, x], argTypes := #[t, t] }) (base : Nat) (e : TypeId) (z : Value) (size bytes : Nat) (ht : P.underlying t = some (.slice e))
    (hinfo : (P.info? e).map (fun i => (i.zero, i.size, i.bytes)) = some (some z, size, bytes)) (hzs : z.cells.size = size) (hsz : 0 < size)
    (v : Value) (n : Nat) (xs : List Value) (hs : a.eval s = v) (hown : V.ownsRow base e size v n xs) (cs : Array Value) (fr : Nat × Nat) (g : Nat) (hx : a.eval x = .slice (some ⟨g, 0, none⟩) 1 1) (hgs : g = V.heap.size) (hcs : cs.toList.length = size)
    (h1 : ∀ u ∈ cs.toList, u.oneCell' = true) (h63 : n + 1 ≤ maxLen) (hbytes : (n + 1) * bytes ≤ 140737488355328) (hbase : base ≤ V.heap.size)
    (h : ∀ v' w', w'.ownsRow base e size v' (n + 1) (xs ++ cs.toList) → V.grownBy w' v.ownBlock → v' ≠ .slice none 0 0 → wpList P ops Q rest (a.put o.dst v') w') : wpList P ops Q (o :: rest) a (V.alloc (.cells cs e fr)) := by
  subst hgs
  obtain ⟨i0, hi, hz0, hz1, hz2⟩ := info_parts hinfo
  refine wpList_append_own _ hgd s x t ho base e i0 z size bytes ht hi hz0 hz1 hz2 hzs hsz v n xs hs (hown.alloc _) ⟨V.heap.size, 0, none⟩ 1 1 cs.toList hx (by omega) (cells_new V cs e fr) h1 h63 hbytes (Nat.le_trans hbase (by simp)) ?_
  intro v' w' ho' hg hnil
  exact h v' w' ho' (grown_trans (grown_alloc _ _ _) hg) (fun he => by have := (hnil.1 he).2; omega)
theorem step_push {P : Program} {W : World} {ops : Array Oper} {o : Oper} {a : Act} {K : Act → World → Prop} {Q : Exit → Act → World → Prop} {E : Prop} (hgd : o.guard = none) (s x : Operand) (t : TypeId)
    (ho : o.op = .call { callee := .builtin .append, args := #[s, x], argTypes := #[t, t] }) (base : Nat) (e : TypeId) (z : Value) (size bytes : Nat) (ht : P.underlying t = some (.slice e))
    (hinfo : (P.info? e).map (fun i => (i.zero, i.size, i.bytes)) = some (some z, size, bytes)) (hzs : z.cells.size = size) (hsz : 0 < size)
    (v : Value) (n : Nat) (xs : List Value) (hs : a.eval s = v) (hown : W.ownsRow base e size v n xs) (cs : Array Value) (fr : Nat × Nat) (g : Nat) (hx : a.eval x = .slice (some ⟨g, 0, none⟩) 1 1) (hnew : W.heap[g]? = some (.cells cs e fr)) (hcs : cs.toList.length = size)
    (h1 : ∀ u ∈ cs.toList, u.oneCell' = true) (h63 : n + 1 ≤ maxLen) (hbytes : (n + 1) * bytes ≤ 140737488355328) (hbase : base ≤ W.heap.size)
    (h : ∀ g' cap w', w'.ownsRow base e size (.slice (some ⟨g', 0, none⟩) (n + 1) cap) (n + 1) (xs ++ cs.toList) → W.grownBy w' v.ownBlock → K (a.put o.dst (.slice (some ⟨g', 0, none⟩) (n + 1) cap)) w') :
    if Region.wanted o (yielded ops a.tmps) = true then Oper.wp P o a W K Q else E := by
  obtain ⟨i0, hi, hz0, hz1, hz2⟩ := info_parts hinfo
  refine step_append_lies W hgd s x t ho base e i0 z size bytes ht hi hz0 hz1 hz2 hzs hsz v n xs hs hown ⟨g, 0, none⟩ 1 1 cs.toList hx (by omega) (World.news_of_block hnew) h1 (by decide) h63 hbytes hbase _ rfl ?_
  intro g' cap w' h2 h3 _ _
  exact h g' cap w' h2 h3
def TruePost (w : World) (e : Ending) (w' : World) : Prop := e = .returned (.bool true) ∧ Below w.heap.size w w'
theorem heap_cell {w : World} {r : Nat} {cs : Array Value} {t : TypeId} (h : w.heap[r]? = some (.cells cs t (0, 0))) (j : Nat) : w.cell? ⟨r, j, none⟩ = cs[j]? := by simp [World.cell?, h]
theorem heap_frozen {w : World} {r : Nat} {cs : Array Value} {t : TypeId} (h : w.heap[r]? = some (.cells cs t (0, 0))) (j : Nat) : w.frozen? ⟨r, j, none⟩ = false := by simp [World.frozen?, h]
theorem heap_put {w : World} {r : Nat} {u : Value} {t : TypeId} (h : w.heap[r]? = some (.cells #[u] t (0, 0))) (v : Value) : (w.setCell ⟨r, 0, none⟩ v).heap[r]? = some (.cells #[v] t (0, 0)) := by
  simp [World.setCell, Array.getElem?_modify, h]
theorem heap_other {w : World} {r : Nat} {o : Obj} (h : w.heap[r]? = some o) {p : Addr} (hp : p.block ≠ r) (v : Value) : (w.setCell p v).heap[r]? = some o := by
  have : (w.setCell p v).heap[r]? = w.heap[r]? := by simp [World.setCell, Array.getElem?_modify, hp]
  rw [this, h]
theorem heap_lt {w : World} {r : Nat} {o : Obj} (h : w.heap[r]? = some o) : r < w.heap.size := (Array.getElem?_eq_some_iff.1 h).1
theorem heap_push_of {w : World} {r : Nat} {o : Obj} (h : w.heap[r]? = some o) (q : Obj) : (w.alloc q).heap[r]? = some o := (Below.heap_alloc _ _ _ (heap_lt h)).trans h
theorem Bel.heap {w w' : World} (h : Bel w w') {r : Nat} {o : Obj} (hr : w.heap[r]? = some o) : w'.heap[r]? = some o := (Below.block h r (heap_lt hr)).trans hr
theorem Bel.drewN {w0 w : World} (h : Bel w0 w) (n : Nat) : Bel w0 (w.drewN n) := ⟨h.os, h.tape, h.output, h.size, h.block⟩
theorem own_base {w : World} {base base' e size n : Nat} {v : Value} {xs : List Value} (ho : w.ownsRow base e size v n xs) (h : base' ≤ base) : w.ownsRow base' e size v n xs := by
  refine ⟨ho.1, ?_⟩
  rcases ho.2 with hn | ⟨g, cap, cur, rfl, hb, rest⟩
  · exact .inl hn
  · exact .inr ⟨g, cap, cur, rfl, Nat.le_trans h hb, rest⟩
theorem own_form {w : World} {base e size n : Nat} {v : Value} {xs : List Value} (h : w.ownsRow base e size v n xs) : ∃ ao cap, v = .slice ao n cap := by
  rcases h.2 with ⟨rfl, rfl⟩ | ⟨g, cap, cur, rfl, _⟩
  · exact ⟨none, 0, rfl⟩
  · exact ⟨_, cap, rfl⟩
/-- A limb as a value. -/
def lmV (k : IntKind) (x : Nat) : Value := .int k (x : Int)
/-- A row of limbs that can be read. -/
def LRow (k : IntKind) (B : Nat) (w : World) (v : Value) (l : List Nat) : Prop :=
  ∃ p c, v = .slice p l.length c ∧ l.length ≤ c ∧ AllB B l ∧ (l ≠ [] → ∃ b o, p = some ⟨b, o, none⟩ ∧ ∀ (j x : Nat), l[j]? = some x → w.cell? ⟨b, o + j, none⟩ = some (lmV k x))
abbrev R64 := LRow .u64 B64
abbrev R32 := LRow .u32 B32
/-- A row of limbs of the call's own. -/
def LOwn (k : IntKind) (B t : Nat) (w : World) (base : Nat) (v : Value) (l : List Nat) : Prop := w.ownsRow base t 1 v l.length (l.map (lmV k)) ∧ AllB B l
abbrev O64 := LOwn .u64 B64 105
abbrev O32 := LOwn .u32 B32 135
theorem LRow.bel {k : IntKind} {B : Nat} {w w' : World} {v : Value} {l : List Nat} (h : LRow k B w v l) (hb : Bel w w') : LRow k B w' v l := by
  obtain ⟨p, c, h1, h2, h3, h4⟩ := h
  exact ⟨p, c, h1, h2, h3, fun hne => by
    obtain ⟨b, o, h5, h6⟩ := h4 hne
    exact ⟨b, o, h5, fun j x hj => hb.cell (h6 j x hj)⟩⟩
theorem LRow.at {k : IntKind} {B : Nat} {w : World} {v : Value} {l : List Nat} (h : LRow k B w v l) {j x : Nat} (hj : l[j]? = some x) : ∃ b o c, v = .slice (some ⟨b, o, none⟩) l.length c ∧ l.length ≤ c ∧ w.cell? ⟨b, o + j, none⟩ = some (.int k (x : Int)) ∧ x < B := by
  obtain ⟨p, c, h1, h2, h3, h4⟩ := h
  obtain ⟨b, o, rfl, h6⟩ := h4 (fun e => by rw [e] at hj; simp at hj)
  exact ⟨b, o, c, h1, h2, h6 j x hj, h3 x (List.mem_of_getElem? hj)⟩
theorem LRow.form {k : IntKind} {B : Nat} {w : World} {v : Value} {l : List Nat} (h : LRow k B w v l) : ∃ p c, v = .slice p l.length c ∧ l.length ≤ c := by
  obtain ⟨p, c, h1, h2, _⟩ := h
  exact ⟨p, c, h1, h2⟩
theorem LRow.all {k : IntKind} {B : Nat} {w : World} {v : Value} {l : List Nat} (h : LRow k B w v l) : AllB B l := by
  obtain ⟨p, c, h1, h2, h3, _⟩ := h
  exact h3
theorem LRow.nil (k : IntKind) (B : Nat) (w : World) : LRow k B w (.slice none 0 0) [] := ⟨none, 0, rfl, Nat.le_refl _, fun x hx => by simp at hx, fun h => absurd rfl h⟩
theorem LRow.take {k : IntKind} {B : Nat} {w : World} {p : Option Addr} {n c : Nat} {l : List Nat} (h : LRow k B w (.slice p n c) l) {m : Nat} (hm : m ≤ l.length) : LRow k B w (.slice p m c) (l.take m) := by
  obtain ⟨p', c', h1, h2, h3, h4⟩ := h
  simp only [Value.slice.injEq] at h1
  obtain ⟨rfl, rfl, rfl⟩ := h1
  refine ⟨p, c, by rw [List.length_take, Nat.min_eq_left hm], by rw [List.length_take]; omega, fun x hx => h3 x (List.mem_of_mem_take hx), fun hne => ?_⟩
  obtain ⟨b, o, h5, h6⟩ := h4 (fun e => hne (by rw [e]; simp))
  refine ⟨b, o, h5, fun j x hj => h6 j x ?_⟩
  rw [List.getElem?_take] at hj
  split at hj
  · exact hj
  · cases hj
theorem LOwn.row {k : IntKind} {B t : Nat} {w : World} {base : Nat} {v : Value} {l : List Nat} (h : LOwn k B t w base v l) : LRow k B w v l := by
  obtain ⟨ho, ha⟩ := h
  rcases ho.2 with ⟨rfl, hz⟩ | ⟨g, cap, cur, rfl, _, hg, hnc, _, _, htake⟩
  · have : l = [] := List.length_eq_zero_iff.1 hz
    subst this
    exact LRow.nil _ _ _
  · refine ⟨_, cap, rfl, hnc, ha, fun _ => ⟨g, 0, rfl, fun j x hj => ?_⟩⟩
    rw [Nat.zero_add, heap_cell hg, ← Array.getElem?_toList]
    have h1 : (l.map (lmV k))[j]? = some (lmV k x) := by rw [List.getElem?_map, hj]; rfl
    rw [← htake, List.getElem?_take] at h1
    split at h1
    · exact h1
    · cases h1
theorem LOwn.bel {k : IntKind} {B t : Nat} {w w' : World} {base : Nat} {v : Value} {l : List Nat} (h : LOwn k B t w base v l) (hb : Bel w w') : LOwn k B t w' base v l := ⟨Bel.own hb h.1, h.2⟩
theorem LOwn.base {k : IntKind} {B t : Nat} {w : World} {base base' : Nat} {v : Value} {l : List Nat} (h : LOwn k B t w base v l) (hb : base' ≤ base) : LOwn k B t w base' v l := ⟨own_base h.1 hb, h.2⟩
theorem LOwn.nil (k : IntKind) (B t : Nat) (w : World) (base : Nat) : LOwn k B t w base (.slice none 0 0) [] := ⟨World.ownsRow_nil w base t 1, fun x hx => by simp at hx⟩
theorem LOwn.form {k : IntKind} {B t : Nat} {w : World} {base : Nat} {v : Value} {l : List Nat} (h : LOwn k B t w base v l) : ∃ p c, v = .slice p l.length c := own_form h.1
theorem LOwn.take {k : IntKind} {B t : Nat} {w : World} {base : Nat} {p : Option Addr} {n c : Nat} {l : List Nat} (h : LOwn k B t w base (.slice p n c) l) {m : Nat} (hm : m ≤ l.length) : LOwn k B t w base (.slice p m c) (l.take m) := by
  obtain ⟨ho, ha⟩ := h
  refine ⟨?_, fun x hx => ha x (List.mem_of_mem_take hx)⟩
  rw [List.length_take, Nat.min_eq_left hm, List.map_take]
  refine ⟨by simp; omega, ?_⟩
  rcases ho.2 with ⟨h1, hz⟩ | ⟨g, cap, cur, h1, hb, hg, hnc, hcm, hcs, htake⟩
  · simp only [Value.slice.injEq] at h1
    obtain ⟨rfl, rfl, rfl⟩ := h1
    exact .inl ⟨by rw [show m = 0 by omega], by omega⟩
  · simp only [Value.slice.injEq] at h1
    obtain ⟨rfl, rfl, rfl⟩ := h1
    refine .inr ⟨g, c, cur, rfl, hb, hg, by omega, hcm, hcs, ?_⟩
    rw [← htake, List.take_take, Nat.mul_one, Nat.mul_one, Nat.min_eq_left (by omega)]
set_option maxRecDepth 100000 in
theorem limb_any (p : Option Addr) (c i : Nat) (l : List Nat) (w : World) (h : R64 w (.slice p l.length c) l) (hi : i < 9223372036854775807) :
    Calls Tryz.prog 206 #[.slice p l.length c, .int .i64 i] w fun e w' => e = .returned (.int .u64 (limbL l i : Nat)) ∧ w' = w := by
  obtain ⟨X, hX⟩ : ∃ X, limbL l i = X := ⟨_, rfl⟩
  rw [hX]
  by_cases hlt : i < l.length
  · obtain ⟨x, hx⟩ : ∃ x, l[i]? = some x := ⟨_, List.getElem?_eq_getElem hlt⟩
    obtain ⟨b, o, c', he, hlc, q0, _⟩ := h.at hx
    simp only [Value.slice.injEq] at he
    obtain ⟨rfl, _, rfl⟩ := he
    have hXx : X = x := by rw [← hX]; simp [limbL, hx]
    subst hXx
    clear hx hX h
    go_enter Tryz.func206, Tryz.ntmps206
    go_wp2
    go_ret
    exact ⟨rfl, rfl⟩
  · have hXx : X = 0 := by rw [← hX]; unfold limbL; rw [List.getElem?_eq_none (by omega)]; rfl
    subst hXx
    clear hX h
    go_enter Tryz.func206, Tryz.ntmps206
    go_wp2
    go_ret
    exact ⟨rfl, rfl⟩
theorem limb_neg (v : Value) (i : Int) (hi : i < 0) (w : World) : Calls Tryz.prog 206 #[v, .int .i64 i] w fun e w' => e = .returned (.int .u64 0) ∧ w' = w := by
  go_enter Tryz.func206, Tryz.ntmps206
  go_wp2
  go_ret
  exact ⟨rfl, rfl⟩
set_option maxRecDepth 100000 in
theorem trim_any (p : Option Addr) (c : Nat) (l : List Nat) (w : World) (h : R64 w (.slice p l.length c) l) (hl : l.length < 4611686018427387904) :
    Calls Tryz.prog 157 #[.slice p l.length c] w fun e w' => e = .returned (.slice p (trimL l).length c) ∧ w' = w := by
  have H := Lib.hid h
  obtain ⟨p', c', he, hlc⟩ := h.form
  simp only [Value.slice.injEq] at he
  obtain ⟨rfl, _, rfl⟩ := he
  clear h
  go_enter Tryz.func157, Tryz.ntmps157
  go_wp2
  go_loopg [0] l.length (fun gf s0 wx => ∃ k : Nat, s0 = .slice p k c ∧ k ≤ l.length ∧ k ≤ gf ∧ trimL (l.take k) = trimL l ∧ wx = w)
  case atStart => exact ⟨l.length, rfl, Nat.le_refl _, Nat.le_refl _, by rw [List.take_length], rfl⟩
  case round =>
    obtain ⟨k, rfl, hk, hkg, hrel, hw⟩ := hrel
    have HREL := Lib.hid hrel
    obtain rfl := hw
    clear hrel
    cases k with
    | zero =>
      go_wp2
      go_ret
      exact ⟨by rw [← HREL.out]; rfl, rfl⟩
    | succ m =>
      obtain ⟨gk', rfl⟩ : ∃ g, gk = g + 1 := ⟨gk - 1, by omega⟩
      obtain ⟨x, hx⟩ : ∃ x, l[m]? = some x := ⟨_, List.getElem?_eq_getElem (by omega)⟩
      obtain ⟨b, o, c', he, _, q0, _⟩ := H.out.at hx
      simp only [Value.slice.injEq] at he
      obtain ⟨rfl, _, rfl⟩ := he
      have HX := Lib.hid hx
      clear hx
      by_cases h0 : x = 0
      · subst h0
        go_wp2
        go_roundg gk'
        case measure => omega
        case rel => exact ⟨m, rfl, by omega, by omega, by rw [← trim_take_zero HX.out]; exact HREL.out, rfl⟩
      · have h0' : ((x : Int) == 0) = false := beq_false_of_ne (by omega)
        have HT : Hid (trimL l = l.take (m + 1)) := by unfold Hid; rw [← HREL.out, trim_take_pos HX.out h0]
        clear h0
        go_wp2
        go_ret
        exact ⟨by rw [HT.out, List.length_take, Nat.min_eq_left hk]; rfl, rfl⟩
end Go.Proofs.YtafmfnpjhhaikaaGreatDoor
