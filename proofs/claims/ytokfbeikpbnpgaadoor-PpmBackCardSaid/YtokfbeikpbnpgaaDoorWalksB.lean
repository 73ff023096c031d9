/-
  The walks of the reference's dec and Encode.
-/
import Derived.Test.YtokfbeikpbnpgaaDoorWalksA
namespace Go.Proofs.YtokfbeikpbnpgaaDoor
open Go.RowKit

def dgc (k : Nat) : UInt8 := UInt8.ofNat (48 + k % 10)
theorem one_digit (k : Nat) : strOfNums [48 + (k : Int) % 10] = ⟨#[dgc k]⟩ := by
  unfold strOfNums dgc
  have : (48 + (k : Int) % 10).toNat = 48 + k % 10 := by omega
  simp [this]
theorem bcat (c : UInt8) (l : List UInt8) : (⟨#[c]⟩ ++ ⟨l.toArray⟩ : ByteArray) = ⟨(c :: l).toArray⟩ := by
  apply ByteArray.ext
  simp
theorem ret_str {x y : ByteArray} (h : x = y) : Ending.returned (.string x) = Ending.returned (.string y) := by rw [h]
theorem dec_more {k : Nat} (h : ¬ (k / 10 = 0)) (l : List UInt8) : Lib.decDigits (k / 10) ++ (dgc k :: l) = Lib.decDigits k ++ l := by
  conv => rhs; rw [Lib.decDigits, dif_neg (by omega)]
  simp [dgc]
theorem dec_last {k : Nat} (h : k / 10 = 0) (l : List UInt8) : dgc k :: l = Lib.decDigits k ++ l := by
  rw [Lib.decDigits, dif_pos (by omega), dgc, Nat.mod_eq_of_lt (by omega)]
  rfl
theorem dec_short {n k : Nat} {l : List UInt8} (hn : n < 18446744073709551616) (h : Lib.decDigits k ++ l = Lib.decDigits n) : l.length ≤ 20 := by
  have := congrArg List.length h
  rw [List.length_append, Lib.decDigits_length n] at this
  have := Lib.nDigits_le20 n hn
  omega
theorem conv_one (W : World) (x : Int) : (convert 23 9 (.slice (some ⟨W.heap.size, 0, none⟩) 1 1)).run Tryd.prog (W.alloc (.cells #[.int .u8 x] 5)) = .ok (.string (strOfNums [x])) (W.alloc (.cells #[.int .u8 x] 5)) :=
  run_convert_bytes_arg (P := Tryd.prog) _ 23 5 Tryd.underlying23 Tryd.underlying5 W.heap.size 0 1 1 [x] rfl (fun i hi => by
      obtain rfl : i = 0 := by omega
      rw [World.cell?_alloc_at _ _ _ _ rfl]; rfl) 9 Tryd.underlying9

def headB (a b : Int) : ByteArray := { data := #[80, 54, 10] } ++ { data := (Lib.itoa a).toArray } ++ { data := #[32] } ++ { data := (Lib.itoa b).toArray } ++ { data := #[10, 50, 53, 53, 10] }
theorem headB_list (a b : Int) : (headB a b).data.toList = headL a b := by simp [headB, headL]
theorem headB_size (a b : Int) : (headB a b).size = 3 + (Lib.itoa a).length + 1 + (Lib.itoa b).length + 5 := by simp [headB, ByteArray.size]; omega

def DecPost (n : Nat) (w : World) (e : Ending) (w' : World) : Prop := e = .returned (.string ⟨(Lib.decDigits n).toArray⟩) ∧ Below w.heap.size w w'
set_option maxHeartbeats 400000 in
theorem dec_any (n : Nat) (w : World) (hn : (n : Int) ≤ 9223372036854775807) :
    Calls Tryd.prog 14 #[.int .i64 n] w (DecPost n w) := by
  have kc := conv_one
  go_enter Tryd.func14, Tryd.ntmps14
  go_wp2
  go_loopw [0, 3] (fun v s wr => ∃ (k : Nat) (l : List UInt8), v = .int .i64 k ∧ s = .string ⟨l.toArray⟩ ∧ k ≤ n ∧ Hid (Lib.decDigits k ++ l = Lib.decDigits n) ∧ Below w.heap.size w wr) (fun v _ _ => (intOf v).toNat)
  case atStart => exact ⟨n, [], rfl, rfl, Nat.le_refl _, (by simp : Lib.decDigits n ++ [] = _), Below.refl _ _⟩
  case round =>
    obtain ⟨k, l, rfl, rfl, hk, hl, hb⟩ := hrel
    have hlen : l.length ≤ 20 := dec_short (by omega) hl.out
    have hd := one_digit k
    by_cases h0 : k / 10 = 0
    · have h0' : ((k : Int) / 10 == 0) = true := by simp; omega
      have hl2 : Hid (dgc k :: l = Lib.decDigits n) := (dec_last h0 l).trans hl.out
      clear h0 hl
      go_wp2
      go_ret
      exact ⟨by rw [← hl2.out]; exact ret_str (bcat _ _), hb.alloc hb.size _⟩
    · have h0' : ((k : Int) / 10 == 0) = false := by simp; omega
      have hl2 : Hid (Lib.decDigits (k / 10) ++ dgc k :: l = Lib.decDigits n) := (dec_more h0 l).trans hl.out
      have h0'' : 1 ≤ k / 10 := by omega
      clear h0 hl
      go_wp2
      go_roundw
      case rel => exact ⟨k / 10, dgc k :: l, by simp, by rw [bcat], by omega, hl2, hb.alloc hb.size _⟩
      case measure => simp [intOf]; omega

theorem dec_side (a : Int) (w : World) (h : Side a) : Calls Tryd.prog 14 #[.int .i64 a] w fun e w' => e = .returned (.string ⟨(Lib.itoa a).toArray⟩) ∧ Below w.heap.size w w' := by
  have e : ((a.toNat : Nat) : Int) = a := by have := h.1; omega
  have := dec_any a.toNat w (by have := h.2; omega)
  rw [e] at this
  exact this.mono fun e w' ⟨he, hb⟩ => ⟨by rw [he, itoa_side h], hb⟩

set_option maxHeartbeats 400000 in
theorem renc_no (a b : Int) (p : Option Addr) (c : Nat) (xs : List Int) (w : World) (h : ¬ (Side a ∧ Side b)) :
    Calls Tryd.prog 8 #[.int .i64 a, .int .i64 b, .slice p xs.length c] w (EncPost ([], 1) w) := by
  unfold Side at h
  by_cases a1 : a < 1
  · go_enter Tryd.func8, Tryd.ntmps8
    go_wp2
    go_ret2
    exact ⟨none, 0, rfl, RB.nil _, Below.refl _ _⟩
  by_cases a2 : 8192 < a
  · go_enter Tryd.func8, Tryd.ntmps8
    go_wp2
    go_ret2
    exact ⟨none, 0, rfl, RB.nil _, Below.refl _ _⟩
  by_cases b1 : b < 1
  · go_enter Tryd.func8, Tryd.ntmps8
    go_wp2
    go_ret2
    exact ⟨none, 0, rfl, RB.nil _, Below.refl _ _⟩
  · have b2 : 8192 < b := by omega
    go_enter Tryd.func8, Tryd.ntmps8
    go_wp2
    go_ret2
    exact ⟨none, 0, rfl, RB.nil _, Below.refl _ _⟩
set_option maxHeartbeats 400000 in
theorem renc_yes (a b : Int) (p : Option Addr) (c : Nat) (xs : List Int) (w : World) (ha : Side a) (hb : Side b) (hr : RB w p c xs) (hl : xs.length ≤ 140737488351232) :
    Calls Tryd.prog 8 #[.int .i64 a, .int .i64 b, .slice p xs.length c] w (EncPost (encS a b xs) w) := by
  have hab : 1 ≤ a * b ∧ a * b ≤ 8192 * 8192 := by
    have := ha.1; have := ha.2; have := hb.1; have := hb.2
    exact ⟨by have := Int.mul_le_mul (a := 1) (b := 1) (c := a) (d := b) (by omega) (by omega) (by omega) (by omega); omega, Int.mul_le_mul (by omega) (by omega) (by omega) (by omega)⟩
  have e4 : wrap64 (3 * a * b) = 3 * a * b := by rw [Int.mul_assoc]; unfold wrap64; omega
  have a1 : 1 ≤ a := ha.1
  have a2 : a ≤ 8192 := ha.2
  have b1 : 1 ≤ b := hb.1
  have b2 : b ≤ 8192 := hb.2
  by_cases hx : (xs.length : Int) = 3 * a * b
  · have es : encS a b xs = (nums (headL a b) ++ xs, 0) := by unfold encS; rw [if_pos ⟨ha, hb⟩, if_pos hx]
    rw [es]
    have hn : 0 < xs.length := by rw [Int.mul_assoc] at hx; omega
    obtain ⟨_, _, hin, hrg⟩ := hr
    obtain ⟨bb, oo, rfl, hc⟩ := hin hn
    have hlen := headL_length ha hb
    have hne : ((xs.length : Int) != 3 * a * b) = false := by simpa using hx
    have kc := fun w s => Lib.run_convert_string_bytes (P := Tryd.prog) w 9 23 5 s Tryd.underlying9 Tryd.underlying23 Tryd.underlying5
    have la := side_len ha
    have lb := side_len hb
    have hlen2 : (headL a b).length + xs.length ≤ 140737488355328 := by omega
    have HC0 : Hid (∀ i, i < xs.length → w.cell? ⟨bb, oo + i, none⟩ = some (.int .u8 (xs.getD i 0))) := hc
    clear es hab hx hin hc
    go_enter Tryd.func8, Tryd.ntmps8
    go_wp2_with fail
    refine (dec_side a _ ha).mono ?_
    rintro e w1 ⟨rfl, hb1⟩
    go_wp2_with fail
    refine (dec_side b _ hb).mono ?_
    rintro e w2 ⟨rfl, hb2⟩
    have hb12 : Below w.heap.size w w2 := hb1.trans (hb2.mono hb1.size)
    have hb3 := hb12.trans ((below_bytes w2 5 (headB a b)).mono hb12.size)
    have hF := fresh_bytes w w2 5 (headB a b) hb12.size
    rw [headB_list, headB_size] at hF
    have HF : Hid (Fresh w (Lib.bytesWorld w2 5 (headB a b)) (headL a b) (Value.slice (some ⟨w2.heap.size, 0, none⟩) (3 + (Lib.itoa a).length + 1 + (Lib.itoa b).length + 5) (grownCap w2 (3 + (Lib.itoa a).length + 1 + (Lib.itoa b).length + 5) 0 5))) := hF
    have hc1 : ∀ i, i < xs.length → (Lib.bytesWorld w2 5 (headB a b)).cell? ⟨bb, oo + i, none⟩ = some (.int .u8 (xs.getD i 0)) := fun i hi => (hb3.cell (World.block_lt_of_cell? w _ (HC0.out i hi))).trans (HC0.out i hi)
    have HC : Hid (∀ i, i < xs.length → (Lib.bytesWorld w2 5 (headB a b)).cell? ⟨bb, oo + i, none⟩ = some (.int .u8 (xs.getD i 0))) := hc1
    have HB3 : Hid (Below w.heap.size w (Lib.bytesWorld w2 5 (headB a b))) := hb3
    clear hF hc1 hb3
    unfold headB at HF HC HB3
    go_wp2_with (first | (at_builtin; refine wpList_append_fresh w _ rfl (.tmp 37) (.tmp 38) 23 rfl Tryd.underlying23 info5 (headL a b) _ rfl HF.out bb oo c xs rfl HC.out hrg hlen2 HB3.out.size ?_; intro p2 c2 w3 hR hb4; have HR := Lib.hid hR; have HB := Lib.hid hb4; clear hR hb4))
    go_ret2
    exact ⟨p2, c2, by rw [List.length_append]; rfl, HR.out, HB3.out.trans HB.out⟩
  · have es : encS a b xs = ([], 11) := by unfold encS; rw [if_pos ⟨ha, hb⟩, if_neg hx]
    rw [es]
    have hne : ((xs.length : Int) != 3 * a * b) = true := by simpa using hx
    clear es hab hx
    go_enter Tryd.func8, Tryd.ntmps8
    go_wp2
    go_ret2
    exact ⟨none, 0, rfl, RB.nil _, Below.refl _ _⟩
end Go.Proofs.YtokfbeikpbnpgaaDoor
