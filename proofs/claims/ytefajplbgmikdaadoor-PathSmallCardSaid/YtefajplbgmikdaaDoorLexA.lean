/-
  The walks of lex.kind, lex.run and lex.number.
-/
import Derived.Test.YtefajplbgmikdaaDoorBase
import Derived.Test.YtefajplbgmikdaaDoorLexSpec
namespace Go.Proofs.YtefajplbgmikdaaDoor
open Go.RowKit

theorem kind_any (c : Nat) (w : World) : Calls Tryd.prog 59 #[.int .i32 c] w fun e w' => e = .returned (.int .i64 (kd c)) ∧ w = w' := by
  unfold kd
  by_cases h1 : c = 32
  · subst h1
    go_enter Tryd.func59, Tryd.ntmps59
    go_wp2
    go_ret
    exact ⟨rfl, rfl⟩
  by_cases h2 : c = 44
  · subst h2
    go_enter Tryd.func59, Tryd.ntmps59
    go_wp2
    go_ret
    exact ⟨rfl, rfl⟩
  by_cases h6 : c = 45
  · subst h6
    go_enter Tryd.func59, Tryd.ntmps59
    go_wp2
    go_ret
    exact ⟨rfl, rfl⟩
  by_cases h7 : c = 10
  · subst h7
    go_enter Tryd.func59, Tryd.ntmps59
    go_wp2
    go_ret
    exact ⟨rfl, rfl⟩
  have e1 : ((c : Int) == 32) = false := by simp; omega
  have e2 : ((c : Int) == 44) = false := by simp; omega
  have e6 : ((c : Int) == 45) = false := by simp; omega
  have e7 : ((c : Int) == 10) = false := by simp; omega
  rw [if_neg (by omega)]
  by_cases h3 : 97 ≤ c ∧ c ≤ 122
  · have a := h3.1
    have b := h3.2
    rw [if_pos (.inl h3)]
    have d1 : decide ((97 : Int) ≤ c) = true := decide_eq_true (by omega)
    have d2 : decide ((c : Int) ≤ 122) = true := decide_eq_true (by omega)
    clear h1 h2 h6 h7 h3
    go_enter Tryd.func59, Tryd.ntmps59
    go_wp2
    go_ret
    exact ⟨rfl, rfl⟩
  by_cases h4 : 65 ≤ c ∧ c ≤ 90
  · rw [if_pos (.inr h4)]
    have d1 : decide ((97 : Int) ≤ c) = false := decide_eq_false (by omega)
    have d2 : decide ((65 : Int) ≤ c) = true := decide_eq_true (by omega)
    have d3 : decide ((c : Int) ≤ 90) = true := decide_eq_true (by omega)
    clear h1 h2 h6 h7 h3 h4
    go_enter Tryd.func59, Tryd.ntmps59
    go_wp2
    go_ret
    exact ⟨rfl, rfl⟩
  rw [if_neg (by omega)]
  by_cases h5 : 48 ≤ c ∧ c ≤ 57
  · rw [if_pos h5]
    have d1 : decide ((97 : Int) ≤ c) = false := decide_eq_false (by omega)
    have d2 : decide ((65 : Int) ≤ c) = false := decide_eq_false (by omega)
    have d3 : decide ((48 : Int) ≤ c) = true := decide_eq_true (by omega)
    have d4 : decide ((c : Int) ≤ 57) = true := decide_eq_true (by omega)
    clear h1 h2 h6 h7 h3 h4 h5
    go_enter Tryd.func59, Tryd.ntmps59
    go_wp2
    go_ret
    exact ⟨rfl, rfl⟩
  rw [if_neg h5, if_neg h6, if_neg h7]
  by_cases a : 97 ≤ c
  · have d1 : decide ((97 : Int) ≤ c) = true := decide_eq_true (by omega)
    have d2 : decide ((c : Int) ≤ 122) = false := decide_eq_false (by omega)
    have d3 : decide ((65 : Int) ≤ c) = true := decide_eq_true (by omega)
    have d4 : decide ((c : Int) ≤ 90) = false := decide_eq_false (by omega)
    have d5 : decide ((48 : Int) ≤ c) = true := decide_eq_true (by omega)
    have d6 : decide ((c : Int) ≤ 57) = false := decide_eq_false (by omega)
    clear h1 h2 h6 h7 h3 h4 h5 a
    go_enter Tryd.func59, Tryd.ntmps59
    go_wp2
    go_ret
    exact ⟨rfl, rfl⟩
  by_cases b : 65 ≤ c
  · have d1 : decide ((97 : Int) ≤ c) = false := decide_eq_false (by omega)
    have d3 : decide ((65 : Int) ≤ c) = true := decide_eq_true (by omega)
    have d4 : decide ((c : Int) ≤ 90) = false := decide_eq_false (by omega)
    have d5 : decide ((48 : Int) ≤ c) = true := decide_eq_true (by omega)
    have d6 : decide ((c : Int) ≤ 57) = false := decide_eq_false (by omega)
    clear h1 h2 h6 h7 h3 h4 h5 a b
    go_enter Tryd.func59, Tryd.ntmps59
    go_wp2
    go_ret
    exact ⟨rfl, rfl⟩
  by_cases d : 48 ≤ c
  · have d1 : decide ((97 : Int) ≤ c) = false := decide_eq_false (by omega)
    have d3 : decide ((65 : Int) ≤ c) = false := decide_eq_false (by omega)
    have d5 : decide ((48 : Int) ≤ c) = true := decide_eq_true (by omega)
    have d6 : decide ((c : Int) ≤ 57) = false := decide_eq_false (by omega)
    clear h1 h2 h6 h7 h3 h4 h5 a b d
    go_enter Tryd.func59, Tryd.ntmps59
    go_wp2
    go_ret
    exact ⟨rfl, rfl⟩
  · have d1 : decide ((97 : Int) ≤ c) = false := decide_eq_false (by omega)
    have d3 : decide ((65 : Int) ≤ c) = false := decide_eq_false (by omega)
    have d5 : decide ((48 : Int) ≤ c) = false := decide_eq_false (by omega)
    clear h1 h2 h6 h7 h3 h4 h5 a b d
    go_enter Tryd.func59, Tryd.ntmps59
    go_wp2
    go_ret
    exact ⟨rfl, rfl⟩

/-! ### run -/
theorem dec_pos (s : ByteArray) (pos : Nat) (h : pos < s.size) : 1 ≤ (Utf8.decode s pos).2 := by
  by_cases ha : (s[pos]'h).toNat < 128
  · rw [decode_ascii s pos h ha]; exact Nat.le_refl _
  · exact (decode_high s pos h (by omega)).2
/-- The list of a text's bytes. -/
abbrev bl (s : ByteArray) : List UInt8 := s.data.toList
theorem bl_length (s : ByteArray) : (bl s).length = s.size := rfl
theorem bl_drop (s : ByteArray) (pos : Nat) (h : pos < s.size) : (bl s).drop pos = s[pos]'h :: (bl s).drop (pos + 1) := by
  rw [List.drop_eq_getElem_cons (by simpa using h)]
  rfl
/-- A rune read is the byte itself, one byte long, or one of no kind. -/
theorem dec_kd (s : ByteArray) (pos : Nat) (h : pos < s.size) : kd (Utf8.decode s pos).1 = kd (s[pos]'h).toNat ∧ ((s[pos]'h).toNat < 128 → Utf8.decode s pos = ((s[pos]'h).toNat, 1)) := by
  by_cases ha : (s[pos]'h).toNat < 128
  · rw [decode_ascii s pos h ha]; exact ⟨rfl, fun _ => rfl⟩
  · refine ⟨?_, fun h => absurd h ha⟩
    rw [kd_high (c := (s[pos]'h).toNat) (by omega), kd_high (c := (Utf8.decode s pos).1) (decode_high s pos h (by omega)).1]
theorem iter_pos (w : World) (s : ByteArray) (p : Nat) : (w.iter s p).iterPos w.heap.size = p := by
  have : (w.iter s p).heap[w.heap.size]? = some (.stringIter s p) := Array.getElem?_push_size
  simp [World.iterPos, this]

def RunAt (s : ByteArray) (k pos : Nat) : Prop := runL k (bl s) = pos + runL k ((bl s).drop pos)
set_option maxHeartbeats 400000 in
theorem run_any (s : ByteArray) (k : Nat) (hk : k ≠ 0) (w : World) : Calls Tryd.prog 60 #[.string s, .int .i64 k] w fun e w' => e = .returned (.int .i64 (runL k (bl s))) ∧ ∃ o, w' = w.alloc o := by
  go_enter Tryd.func60, Tryd.ntmps60
  go_wp2
  go_loopw [5, 6] (fun i c w' => ∃ pos, w' = w.iter s pos ∧ pos ≤ s.size ∧ RunAt s k pos) (fun _ _ w' => s.size - w'.iterPos w.heap.size)
  case atStart => exact ⟨0, rfl, by omega, by simp [RunAt]⟩
  case round =>
    obtain ⟨pos, rfl, hp, hR⟩ := hrel
    have HR := Lib.hid hR
    clear hR
    have HB : Hid (∀ p, ∃ o, w.iter s p = w.alloc o) := fun p => ⟨_, rfl⟩
    by_cases h : pos < s.size
    · have hnx := fun ty => run_next_any (P := Tryd.prog) w s pos ty h
      have hd := dec_kd s pos h
      have hdp := dec_pos s pos h
      obtain ⟨c, d, hcd⟩ : ∃ c d, Utf8.decode s pos = (c, d) := ⟨_, _, rfl⟩
      rw [hcd] at hd hdp
      simp only [hcd] at hnx
      dsimp only at hd hdp
      have HD := Lib.hid hd
      clear hd hcd
      by_cases he : kd c = k
      · have hne : ((kd c : Int) != k) = false := by simp; omega
        have HE := Lib.hid he
        have HX : Hid (RunAt s k (pos + d) ∧ pos + d ≤ s.size) := by
          have hlt := kd_lt (c := c) (by omega)
          have h1 : (s[pos]'h).toNat < 128 := kd_lt (by rw [← HD.out.1, HE.out]; exact hk)
          have h2 := HD.out.2 h1
          obtain ⟨_, rfl⟩ := Prod.mk.inj h2
          refine ⟨?_, by omega⟩
          have := HR.out
          unfold RunAt at this ⊢
          rw [this, bl_drop s pos h, runL, if_pos (by rw [← HD.out.1, HE.out])]
          omega
        clear he
        go_wp2_with (first | (go_at_call 59; (with_reducible refine (kind_any c _).mono ?_); rintro e w1 ⟨rfl, rfl⟩))
        go_roundw
        case rel => exact ⟨_, rfl, HX.out.2, HX.out.1⟩
        case measure => rw [iter_pos, iter_pos]; omega
      · have hne : ((kd c : Int) != k) = true := by simp; omega
        have HE := Lib.hid he
        have HX : Hid (((pos : Nat) : Int) = runL k (bl s)) := by
          have := HR.out
          unfold RunAt at this
          rw [bl_drop s pos h, runL, if_neg (by rw [← HD.out.1]; exact HE.out)] at this
          show ((pos : Nat) : Int) = runL k (bl s)
          omega
        clear he
        go_wp2_with (first | (go_at_call 59; (with_reducible refine (kind_any c _).mono ?_); rintro e w1 ⟨rfl, rfl⟩))
        go_ret
        exact ⟨by rw [← HX.out]; rfl, HB.out _⟩
    · have hnx := fun ty => run_next_end (P := Tryd.prog) w s pos ty h
      have HX : Hid (((s.size : Nat) : Int) = runL k (bl s)) := by
        have := HR.out
        unfold RunAt at this
        obtain rfl : pos = s.size := by omega
        rw [List.drop_of_length_le (by simp), runL] at this
        show ((s.size : Nat) : Int) = runL k (bl s)
        omega
      go_wp2
      go_ret
      exact ⟨by rw [← HX.out]; rfl, HB.out _⟩

/-! ### number -/
def DigL (l : List UInt8) : Prop := ∀ c ∈ l, 48 ≤ c.toNat ∧ c.toNat ≤ 57
theorem numN_le : ∀ (l : List UInt8) (n : Nat), DigL l → n ≤ 4611686018427387904 → numN n l ≤ 4611686018427387904
  | [], n, _, h => h
  | c :: r, n, hd, h => by
    unfold numN
    split
    · exact Nat.le_refl _
    · have := hd c (by simp)
      exact numN_le r _ (fun x hx => hd x (by simp [hx])) (by omega)
def NumAt (s : ByteArray) (pos n : Nat) : Prop := numN 0 (bl s) = numN n ((bl s).drop pos) ∧ n ≤ 4611686018427387904
set_option maxHeartbeats 400000 in
theorem number_any (s : ByteArray) (hd : DigL (bl s)) (w : World) : Calls Tryd.prog 61 #[.string s] w fun e w' => e = .returned (.int .i64 (numN 0 (bl s))) ∧ ∃ o, w' = w.alloc o := by
  have HD := Lib.hid hd
  clear hd
  go_enter Tryd.func61, Tryd.ntmps61
  go_wp2
  go_loopw [3, 5, 6] (fun v c d w' => ∃ pos n : Nat, w' = w.iter s pos ∧ v = .int .i64 n ∧ pos ≤ s.size ∧ NumAt s pos n) (fun _ _ _ w' => s.size - w'.iterPos w.heap.size)
  case atStart => exact ⟨0, 0, rfl, rfl, by omega, by simp [NumAt]⟩
  case round =>
    obtain ⟨pos, n, rfl, rfl, hp, hR⟩ := hrel
    have HR := Lib.hid hR
    clear hR
    have HB : Hid (∀ p, ∃ o, w.iter s p = w.alloc o) := fun p => ⟨_, rfl⟩
    by_cases h : pos < s.size
    · have hnx := fun ty => run_next_any (P := Tryd.prog) w s pos ty h
      obtain ⟨b, hb⟩ : ∃ b, (s[pos]'h) = b := ⟨_, rfl⟩
      have hdig : 48 ≤ b.toNat ∧ b.toNat ≤ 57 := HD.out b (by rw [← hb]; exact Array.getElem_mem_toList _)
      have hdc := (dec_kd s pos h).2 (by rw [hb]; omega)
      rw [hb] at hdc
      simp only [hdc] at hnx
      obtain ⟨d, hdd⟩ : ∃ d, b.toNat = 48 + d := ⟨b.toNat - 48, by omega⟩
      have hd9 : d ≤ 9 := by omega
      have hn := HR.out.2
      have HS : Hid (numN n ((bl s).drop pos) = if (4611686018427387904 - d) / 10 < n then 4611686018427387904 else numN (n * 10 + d) ((bl s).drop (pos + 1))) := by
        show _ = _
        rw [bl_drop s pos h, hb, numN]
        rw [show b.toNat - 48 = d by omega]
      obtain ⟨c, hc⟩ : ∃ c, b.toNat = c := ⟨_, rfl⟩
      simp only [hc] at hnx
      have e1 : (c : Int) - 48 = (d : Int) := by omega
      have c2 : c ≤ 57 := by omega
      clear hdd hdc hb hdig hc
      by_cases hg : (4611686018427387904 - d) / 10 < n
      · have hg' : decide ((4611686018427387904 - (d : Int)) / 10 < (n : Int)) = true := decide_eq_true (by omega)
        have HX : Hid (numN 0 (bl s) = 4611686018427387904) := by
          have := HR.out.1
          rw [HS.out, if_pos hg] at this
          exact this
        clear hg
        go_wp2
        go_ret
        exact ⟨by rw [HX.out]; rfl, HB.out _⟩
      · have hg' : decide ((4611686018427387904 - (d : Int)) / 10 < (n : Int)) = false := decide_eq_false (by omega)
        have HX : Hid (NumAt s (pos + 1) (n * 10 + d)) := by
          have := HR.out.1
          rw [HS.out, if_neg hg] at this
          exact ⟨this, by omega⟩
        have hn2 : n * 10 + d ≤ 4611686018427387904 := HX.out.2
        clear hg
        go_wp2
        go_roundw
        case rel => exact ⟨_, _, rfl, by go_num, by omega, HX.out⟩
        case measure => rw [iter_pos, iter_pos]; omega
    · have hnx := fun ty => run_next_end (P := Tryd.prog) w s pos ty h
      have HX : Hid (numN 0 (bl s) = n) := by
        have := HR.out.1
        rw [List.drop_of_length_le (by simp; omega), numN] at this
        exact this
      go_wp2
      go_ret
      exact ⟨by rw [HX.out]; rfl, HB.out _⟩
end Go.Proofs.YtefajplbgmikdaaDoor
