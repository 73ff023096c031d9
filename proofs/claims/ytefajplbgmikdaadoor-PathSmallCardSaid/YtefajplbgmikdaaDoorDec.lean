/-
  The walks of the two dec.
-/
import Derived.Test.YtefajplbgmikdaaDoorLawD
namespace Go.Proofs.YtefajplbgmikdaaDoor
open Go.RowKit

def dgc (k : Nat) : UInt8 := UInt8.ofNat (48 + k % 10)
theorem one_digit (k : Nat) : strOfNums [48 + (k : Int) % 10] = ⟨#[dgc k]⟩ := by
  unfold strOfNums dgc
  have : (48 + (k : Int) % 10).toNat = 48 + k % 10 := by omega
  simp [this]
theorem bcat (c : UInt8) (l : List UInt8) : (⟨#[c]⟩ ++ ⟨l.toArray⟩ : ByteArray) = ⟨(c :: l).toArray⟩ := by
  apply ByteArray.ext
  simp
theorem ret_str {x y : ByteArray} (h : x = y) : Ending.returned (.string x) = Ending.returned (.string y) := by rw [h]
theorem dec_more {k : Nat} (h : ¬ (k / 10 = 0)) (l : List UInt8) : Lib.decDigits (k / 10) ++ (dgc k :: l) = Lib.decDigits k ++ l := by
  conv => rhs; rw [Lib.decDigits, dif_neg (by omega)]
  simp [dgc]
theorem dec_last {k : Nat} (h : k / 10 = 0) (l : List UInt8) : dgc k :: l = Lib.decDigits k ++ l := by
  rw [Lib.decDigits, dif_pos (by omega), dgc, Nat.mod_eq_of_lt (by omega)]
  rfl
theorem dec_short {n k : Nat} {l : List UInt8} (hn : n < 18446744073709551616) (h : Lib.decDigits k ++ l = Lib.decDigits n) : l.length ≤ 20 := by
  have := congrArg List.length h
  rw [List.length_append, Lib.decDigits_length n] at this
  have := Lib.nDigits_le20 n hn
  omega
theorem conv_one (W : World) (x : Int) : (convert 71 9 (.slice (some ⟨W.heap.size, 0, none⟩) 1 1)).run Tryd.prog (W.alloc (.cells #[.int .u8 x] 5)) = .ok (.string (strOfNums [x])) (W.alloc (.cells #[.int .u8 x] 5)) :=
  run_convert_bytes_arg (P := Tryd.prog) _ 71 5 Tryd.underlying71 Tryd.underlying5 W.heap.size 0 1 1 [x] rfl (fun i hi => by
      obtain rfl : i = 0 := by omega
      rw [World.cell?_alloc_at _ _ _ _ rfl]; rfl) 9 Tryd.underlying9

set_option maxHeartbeats 1000000 in
set_option maxRecDepth 100000 in
theorem lawdec_any (v : Int) (h : -4611686018427387904 ≤ v ∧ v ≤ 4611686018427387904) (w : World) :
    Calls Tryd.prog 19 #[.int .i64 v] w fun e w' => e = .returned (.string ⟨(Lib.itoa v).toArray⟩) ∧ Bel w w' := by
  have kc := conv_one
  by_cases hneg : v < 0
  · obtain ⟨n, hn⟩ : ∃ n : Nat, v = -(n : Int) := ⟨v.natAbs, by omega⟩
    have HI : Hid (Lib.itoa v = 45 :: Lib.decDigits n) := by unfold Hid; rw [hn]; exact Lib.itoa_neg n (by omega)
    rw [HI.out]
    subst hn
    have hw : IntKind.i64.wrap (- -(n : Int)) = n := by rw [Int.neg_neg]; exact IntWalk.i64_in _ (by omega)
    go_enter Tryd.func19, Tryd.ntmps19
    go_wp2
    go_loopw [3, 4] (fun s u wr => ∃ (k : Nat) (l : List UInt8), u = .int .i64 k ∧ s = .string ⟨l.toArray⟩ ∧ k ≤ n ∧ Hid (Lib.decDigits k ++ l = Lib.decDigits n) ∧ Bel w wr) (fun _ u _ => (intOf u).toNat)
    case atStart => exact ⟨n, [], by first | rfl | simp, rfl, Nat.le_refl _, (by simp : Lib.decDigits n ++ [] = _), Bel.refl _⟩
    case round =>
      obtain ⟨k, l, rfl, rfl, hk, hl, hb⟩ := hrel
      have hlen : l.length ≤ 20 := dec_short (by omega) hl.out
      have hd := one_digit k
      have HB := Lib.hid hb
      clear hb
      by_cases h0 : k / 10 = 0
      · have h0' : ((k : Int) / 10 == 0) = true := by simp; omega
        have hl2 : Hid (dgc k :: l = Lib.decDigits n) := (dec_last h0 l).trans hl.out
        clear h0 hl
        go_wp2
        go_ret
        exact ⟨by rw [← hl2.out]; exact ret_str (by rw [bcat, bcat]), HB.out.alloc _⟩
      · have h0' : ((k : Int) / 10 == 0) = false := by simp; omega
        have hl2 : Hid (Lib.decDigits (k / 10) ++ dgc k :: l = Lib.decDigits n) := (dec_more h0 l).trans hl.out
        have h0'' : 1 ≤ k / 10 := by omega
        clear h0 hl
        go_wp2
        go_roundw
        case rel => exact ⟨k / 10, dgc k :: l, by simp, by rw [bcat], by omega, hl2, HB.out.alloc _⟩
        case measure => simp [intOf]; omega
  · obtain ⟨n, hn⟩ : ∃ n : Nat, v = (n : Int) := ⟨v.natAbs, by omega⟩
    have HI : Hid (Lib.itoa v = Lib.decDigits n) := by unfold Hid; rw [hn]; exact Lib.itoa_nonneg n
    rw [HI.out]
    subst hn
    go_enter Tryd.func19, Tryd.ntmps19
    go_wp2
    go_loopw [3, 4] (fun s u wr => ∃ (k : Nat) (l : List UInt8), u = .int .i64 k ∧ s = .string ⟨l.toArray⟩ ∧ k ≤ n ∧ Hid (Lib.decDigits k ++ l = Lib.decDigits n) ∧ Bel w wr) (fun _ u _ => (intOf u).toNat)
    case atStart => exact ⟨n, [], rfl, rfl, Nat.le_refl _, (by simp : Lib.decDigits n ++ [] = _), Bel.refl _⟩
    case round =>
      obtain ⟨k, l, rfl, rfl, hk, hl, hb⟩ := hrel
      have hlen : l.length ≤ 20 := dec_short (by omega) hl.out
      have hd := one_digit k
      have HB := Lib.hid hb
      clear hb
      by_cases h0 : k / 10 = 0
      · have h0' : ((k : Int) / 10 == 0) = true := by simp; omega
        have hl2 : Hid (dgc k :: l = Lib.decDigits n) := (dec_last h0 l).trans hl.out
        clear h0 hl
        go_wp2
        go_ret
        exact ⟨by rw [← hl2.out]; exact ret_str (bcat _ _), HB.out.alloc _⟩
      · have h0' : ((k : Int) / 10 == 0) = false := by simp; omega
        have hl2 : Hid (Lib.decDigits (k / 10) ++ dgc k :: l = Lib.decDigits n) := (dec_more h0 l).trans hl.out
        have h0'' : 1 ≤ k / 10 := by omega
        clear h0 hl
        go_wp2
        go_roundw
        case rel => exact ⟨k / 10, dgc k :: l, by simp, by rw [bcat], by omega, hl2, HB.out.alloc _⟩
        case measure => simp [intOf]; omega

set_option maxHeartbeats 1000000 in
set_option maxRecDepth 100000 in
theorem refdec_any (v : Int) (h : -4611686018427387904 ≤ v ∧ v ≤ 4611686018427387904) (w : World) :
    Calls Tryd.prog 33 #[.int .i64 v] w fun e w' => e = .returned (.string ⟨(Lib.itoa v).toArray⟩) ∧ Bel w w' := by
  have kc := conv_one
  by_cases hneg : v < 0
  · obtain ⟨n, hn⟩ : ∃ n : Nat, v = -(n : Int) := ⟨v.natAbs, by omega⟩
    have HI : Hid (Lib.itoa v = 45 :: Lib.decDigits n) := by unfold Hid; rw [hn]; exact Lib.itoa_neg n (by omega)
    rw [HI.out]
    subst hn
    have hw : IntKind.i64.wrap (- -(n : Int)) = n := by rw [Int.neg_neg]; exact IntWalk.i64_in _ (by omega)
    go_enter Tryd.func33, Tryd.ntmps33
    go_wp2
    go_loopw [3, 4] (fun s u wr => ∃ (k : Nat) (l : List UInt8), u = .int .i64 k ∧ s = .string ⟨l.toArray⟩ ∧ k ≤ n ∧ Hid (Lib.decDigits k ++ l = Lib.decDigits n) ∧ Bel w wr) (fun _ u _ => (intOf u).toNat)
    case atStart => exact ⟨n, [], by first | rfl | simp, rfl, Nat.le_refl _, (by simp : Lib.decDigits n ++ [] = _), Bel.refl _⟩
    case round =>
      obtain ⟨k, l, rfl, rfl, hk, hl, hb⟩ := hrel
      have hlen : l.length ≤ 20 := dec_short (by omega) hl.out
      have hd := one_digit k
      have HB := Lib.hid hb
      clear hb
      by_cases h0 : k / 10 = 0
      · have h0' : ((k : Int) / 10 == 0) = true := by simp; omega
        have hl2 : Hid (dgc k :: l = Lib.decDigits n) := (dec_last h0 l).trans hl.out
        clear h0 hl
        go_wp2
        go_ret
        exact ⟨by rw [← hl2.out]; exact ret_str (by rw [bcat, bcat]), HB.out.alloc _⟩
      · have h0' : ((k : Int) / 10 == 0) = false := by simp; omega
        have hl2 : Hid (Lib.decDigits (k / 10) ++ dgc k :: l = Lib.decDigits n) := (dec_more h0 l).trans hl.out
        have h0'' : 1 ≤ k / 10 := by omega
        clear h0 hl
        go_wp2
        go_roundw
        case rel => exact ⟨k / 10, dgc k :: l, by simp, by rw [bcat], by omega, hl2, HB.out.alloc _⟩
        case measure => simp [intOf]; omega
  · obtain ⟨n, hn⟩ : ∃ n : Nat, v = (n : Int) := ⟨v.natAbs, by omega⟩
    have HI : Hid (Lib.itoa v = Lib.decDigits n) := by unfold Hid; rw [hn]; exact Lib.itoa_nonneg n
    rw [HI.out]
    subst hn
    go_enter Tryd.func33, Tryd.ntmps33
    go_wp2
    go_loopw [3, 4] (fun s u wr => ∃ (k : Nat) (l : List UInt8), u = .int .i64 k ∧ s = .string ⟨l.toArray⟩ ∧ k ≤ n ∧ Hid (Lib.decDigits k ++ l = Lib.decDigits n) ∧ Bel w wr) (fun _ u _ => (intOf u).toNat)
    case atStart => exact ⟨n, [], rfl, rfl, Nat.le_refl _, (by simp : Lib.decDigits n ++ [] = _), Bel.refl _⟩
    case round =>
      obtain ⟨k, l, rfl, rfl, hk, hl, hb⟩ := hrel
      have hlen : l.length ≤ 20 := dec_short (by omega) hl.out
      have hd := one_digit k
      have HB := Lib.hid hb
      clear hb
      by_cases h0 : k / 10 = 0
      · have h0' : ((k : Int) / 10 == 0) = true := by simp; omega
        have hl2 : Hid (dgc k :: l = Lib.decDigits n) := (dec_last h0 l).trans hl.out
        clear h0 hl
        go_wp2
        go_ret
        exact ⟨by rw [← hl2.out]; exact ret_str (bcat _ _), HB.out.alloc _⟩
      · have h0' : ((k : Int) / 10 == 0) = false := by simp; omega
        have hl2 : Hid (Lib.decDigits (k / 10) ++ dgc k :: l = Lib.decDigits n) := (dec_more h0 l).trans hl.out
        have h0'' : 1 ≤ k / 10 := by omega
        clear h0 hl
        go_wp2
        go_roundw
        case rel => exact ⟨k / 10, dgc k :: l, by simp, by rw [bcat], by omega, hl2, HB.out.alloc _⟩
        case measure => simp [intOf]; omega
end Go.Proofs.YtefajplbgmikdaaDoor
