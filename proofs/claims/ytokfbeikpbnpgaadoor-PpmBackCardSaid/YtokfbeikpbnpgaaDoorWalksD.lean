/-
  The walk of the reference's Decode: what a file has, or that it has none.
-/
import Derived.Test.YtokfbeikpbnpgaaDoorWalksC
namespace Go.Proofs.YtokfbeikpbnpgaaDoor
open Go.RowKit

/-- What a file has: numbers and bytes, or the error. -/
def Img (xs : List Int) (a b : Int) (zs : List Int) : Prop := Side a ∧ Side b ∧ xs = nums (headL a b) ++ zs ∧ (zs.length : Int) = 3 * a * b
def DecS (xs : List Int) (a b : Int) (zs : List Int) (e : Int) : Prop := (e = 0 ∧ Img xs a b zs) ∨ (e = 11 ∧ a = 0 ∧ b = 0 ∧ zs = [] ∧ ∀ a' b' zs', ¬ Img xs a' b' zs')
theorem Img.bytes {xs : List Int} {a b : Int} {zs : List Int} (h : Img xs a b zs) : Lib.bytesOf xs = headL a b ++ Lib.bytesOf zs := by
  rw [h.2.2.1]
  unfold Lib.bytesOf
  rw [List.map_append]
  congr 1
  exact bytes_nums _
theorem DecS.one {xs : List Int} {a b a' b' : Int} {zs zs' : List Int} {e e' : Int} (h : DecS xs a b zs e) (h' : DecS xs a' b' zs' e') : a = a' ∧ b = b' ∧ zs = zs' ∧ e = e' := by
  rcases h with ⟨rfl, h⟩ | ⟨rfl, rfl, rfl, rfl, hn⟩ <;> rcases h' with ⟨rfl, h'⟩ | ⟨rfl, rfl, rfl, rfl, hn'⟩
  · have e := h.bytes.symm.trans h'.bytes
    obtain ⟨rfl, rfl, e2⟩ := headL_inj h.1 h.2.1 h'.1 h'.2.1 e
    refine ⟨rfl, rfl, ?_, rfl⟩
    have := h.2.2.1.symm.trans h'.2.2.1
    exact List.append_cancel_left this
  · exact absurd h (hn' _ _ _)
  · exact absurd h' (hn _ _ _)
  · exact ⟨rfl, rfl, rfl, rfl⟩

theorem strOfNums_list (xs : List Int) : (strOfNums xs).toList = Lib.bytesOf xs := by
  rw [ByteArray.toList_eq]; rfl
theorem starts_is (b o c k : Nat) (xs : List Int) (s : ByteArray) (w : World) (h : k + s.size ≤ xs.length) (h0 : 0 < s.size) (hnc : xs.length ≤ c) (hl : xs.length ≤ 140737488351232)
    (hc : ∀ i, i < xs.length → w.cell? ⟨b, o + i, none⟩ = some (.int .u8 (xs.getD i 0))) :
    Calls Tryd.prog 18 #[.slice (some ⟨b, o, none⟩) xs.length c, .int .i64 k, .string s] w fun e w' => e = .returned (.bool (((Lib.bytesOf xs).drop k).take s.size == s.data.toList)) ∧ w = w' :=
  (starts_in b o c k xs s w h h0 hnc hl hc).mono fun e w' ⟨he, hw⟩ => ⟨by
    rw [he, strOfNums_list, ByteArray.toList_eq]
    congr 3
    unfold Lib.bytesOf
    rw [List.map_take, List.map_drop], hw⟩
/-- All ways of 'starts' at once, at a place that is -1 or in the slice. -/
def startsB (L : List UInt8) (k : Int) (s : List UInt8) : Bool := decide (0 ≤ k) && decide (k + s.length ≤ L.length) && ((L.drop k.toNat).take s.length == s)
theorem starts_any (p : Option Addr) (c : Nat) (k : Int) (xs : List Int) (s : ByteArray) (w : World) (hR : RB w p c xs) (h0 : 0 < s.size) (hs : s.size ≤ 100) (hk : k ≤ 140737488351232) (hl : xs.length ≤ 140737488351232) :
    Calls Tryd.prog 18 #[.slice p xs.length c, .int .i64 k, .string s] w fun e w' => e = .returned (.bool (startsB (Lib.bytesOf xs) k s.data.toList)) ∧ w = w' := by
  have hsl : s.data.toList.length = s.size := Array.length_toList
  by_cases hk0 : k < 0
  · refine (starts_neg p c _ k s w hk0).mono fun e w' ⟨he, hw⟩ => ⟨?_, hw⟩
    rw [he, startsB, decide_eq_false (by omega)]; rfl
  obtain ⟨q, rfl⟩ : ∃ q : Nat, k = q := ⟨k.toNat, by omega⟩
  by_cases hin : q + s.size ≤ xs.length
  · obtain ⟨h1, h2, h3, h4⟩ := hR
    obtain ⟨bb, oo, rfl, hc⟩ := h3 (by omega)
    refine (starts_is bb oo c q xs s w hin h0 h1 hl hc).mono fun e w' ⟨he, hw⟩ => ⟨?_, hw⟩
    rw [he, startsB, decide_eq_true (by omega), decide_eq_true (by rw [hsl, bytesOf_length]; omega), hsl]; rfl
  · refine (starts_out p c _ q s w (by omega) (by omega) hs).mono fun e w' ⟨he, hw⟩ => ⟨?_, hw⟩
    rw [he, startsB, decide_eq_true (by omega), decide_eq_false (by rw [hsl, bytesOf_length]; omega)]; rfl
theorem number_any (p : Option Addr) (c k : Nat) (xs : List Int) (w : World) (hR : RB w p c xs) (h0 : 0 < xs.length) (hk : k ≤ xs.length) (hl : xs.length ≤ 140737488351232) :
    Calls Tryd.prog 19 #[.slice p xs.length c, .int .i64 k] w (NumPost2 xs k w) := by
  obtain ⟨h1, h2, h3, h4⟩ := hR
  obtain ⟨bb, oo, rfl, hc⟩ := h3 h0
  exact number_at bb oo c k xs w hk hl h4 hc

def RDecPost (xs : List Int) (w : World) (e : Ending) (w' : World) : Prop := ∃ (a b : Int) (p : Option Addr) (c : Nat) (zs : List Int) (q : Int),
  e = .returned (.agg #[.int .i64 a, .int .i64 b, .slice p zs.length c, .int .i64 q]) ∧ DecS xs a b zs q ∧ RB w' p c zs ∧ Below w.heap.size w w'
theorem rdec_bad {xs : List Int} {w w' : World} {e : Ending} (he : e = .returned (.agg #[.int .i64 0, .int .i64 0, .slice none 0 0, .int .i64 11])) (hn : ∀ a' b' zs', ¬ Img xs a' b' zs') (hb : Below w.heap.size w w') : RDecPost xs w e w' :=
  ⟨0, 0, none, 0, [], 11, he, .inr ⟨rfl, rfl, rfl, rfl, hn⟩, RB.nil _, hb⟩
theorem two_boxes (w : World) (o o' : Obj) : Below w.heap.size w ((w.alloc o).alloc o') := ((Below.refl _ _).alloc (Nat.le_refl _) o).alloc (by simp) o'

theorem head_one {L r : List UInt8} {a b : Int} (h : L = headL a b ++ r) : startsB L 0 [80, 54, 10] = true := by
  subst h
  simp [startsB, headL]
  omega
theorem startsB_nat (L : List UInt8) (k : Nat) (s : List UInt8) : startsB L k s = true ↔ k + s.length ≤ L.length ∧ (L.drop k).take s.length = s := by
  unfold startsB
  rw [Bool.and_eq_true, Bool.and_eq_true, decide_eq_true_eq, decide_eq_true_eq, beq_iff_eq, Int.toNat_natCast]
  constructor
  · rintro ⟨⟨_, h⟩, h2⟩; exact ⟨by omega, h2⟩
  · rintro ⟨h, h2⟩; exact ⟨⟨by omega, by omega⟩, h2⟩
theorem startsB_of {L r s : List UInt8} {k : Nat} (h : L.drop k = s ++ r) (hs : s ≠ []) : startsB L k s = true := by
  rw [startsB_nat]
  have hl := congrArg List.length h
  simp only [List.length_drop, List.length_append] at hl
  have : 0 < s.length := by cases s with | nil => exact absurd rfl hs | cons => simp
  exact ⟨by omega, by rw [h, List.take_left']; rfl⟩
theorem parse1 {L r : List UInt8} {a b r1 r2 : Int} (ha : Side a) (h : L = headL a b ++ r) (hn : NumRes L 3 r1 r2) : r1 = a ∧ r2 = ((3 + (Lib.itoa a).length : Nat) : Int) ∧ startsB L r2 [32] = true := by
  have e : L.drop 3 = Lib.itoa a ++ 32 :: (Lib.itoa b ++ [10, 50, 53, 53, 10] ++ r) := by rw [h]; simp [headL]
  obtain ⟨rfl, rfl⟩ := hn.1 a 32 _ ha e nd32
  refine ⟨rfl, rfl, startsB_of (r := Lib.itoa b ++ [10, 50, 53, 53, 10] ++ r) ?_ (by simp)⟩
  rw [← List.drop_drop, e, List.drop_left']
  · rfl
  · rfl
theorem parse2 {L r : List UInt8} {a b s1 s2 : Int} (hb : Side b) (h : L = headL a b ++ r) (hn : NumRes L (3 + (Lib.itoa a).length + 1) s1 s2) : s1 = b ∧ s2 = ((3 + (Lib.itoa a).length + 1 + (Lib.itoa b).length : Nat) : Int) ∧ startsB L s2 [10, 50, 53, 53, 10] = true := by
  have e0 : L.drop 3 = Lib.itoa a ++ 32 :: (Lib.itoa b ++ [10, 50, 53, 53, 10] ++ r) := by rw [h]; simp [headL]
  have e : L.drop (3 + (Lib.itoa a).length + 1) = Lib.itoa b ++ 10 :: ([50, 53, 53, 10] ++ r) := by
    rw [← List.drop_drop, ← List.drop_drop, e0, List.drop_left' rfl]
    simp
  obtain ⟨rfl, rfl⟩ := hn.1 b 10 _ hb e nd10
  refine ⟨rfl, rfl, startsB_of (r := r) ?_ (by simp)⟩
  rw [← List.drop_drop, e, List.drop_left' rfl]
  simp
theorem cut_at (L : List UInt8) (k m : Nat) : L.drop k = (L.drop k).take m ++ L.drop (k + m) := by
  rw [← List.drop_drop, List.take_append_drop]
theorem parse3 {L : List UInt8} {r1 s1 : Int} {k1 k2 : Nat} (h0 : startsB L 0 [80, 54, 10] = true) (hk1 : k1 = 3 + (Lib.itoa r1).length) (e1 : (L.drop 3).take (Lib.itoa r1).length = Lib.itoa r1)
    (h1 : startsB L k1 [32] = true) (hk2 : k2 = k1 + 1 + (Lib.itoa s1).length) (e2 : (L.drop (k1 + 1)).take (Lib.itoa s1).length = Lib.itoa s1) (h2 : startsB L k2 [10, 50, 53, 53, 10] = true) : L = headL r1 s1 ++ L.drop (k2 + 5) ∧ k2 + 5 ≤ L.length := by
  have q0 := ((startsB_nat L 0 _).1 h0).2
  have q1 := ((startsB_nat L k1 _).1 h1).2
  have q2 := (startsB_nat L k2 _).1 h2
  simp only [List.length_cons, List.length_nil, Nat.zero_add, List.drop_zero] at q0 q1 q2
  refine ⟨?_, q2.1⟩
  have c0 := cut_at L 0 3
  have c1 := cut_at L 3 (Lib.itoa r1).length
  have c2 := cut_at L k1 1
  have c3 := cut_at L (k1 + 1) (Lib.itoa s1).length
  have c4 := cut_at L k2 5
  rw [List.drop_zero, q0, Nat.zero_add] at c0
  rw [e1, ← hk1] at c1
  rw [q1] at c2
  rw [e2, ← hk2] at c3
  rw [q2.2] at c4
  conv => lhs; rw [c0, c1, c2, c3, c4]
  simp [headL]
theorem nums_drop {xs : List Int} {L : List UInt8} {a b : Int} {k : Nat} (hr : ∀ x ∈ xs, 0 ≤ x ∧ x < 256) (hL : Lib.bytesOf xs = L) (h : L = headL a b ++ L.drop k) : xs = nums (headL a b) ++ xs.drop k := by
  have e : nums L = nums (headL a b) ++ nums (L.drop k) := by
    conv => lhs; rw [h]
    simp [nums]
  rw [← hL, nums_bytes xs hr] at e
  have e2 : nums (List.drop k (Lib.bytesOf xs)) = xs.drop k := by
    rw [← nums_bytes (xs.drop k) (fun x hx => hr x (List.mem_of_mem_drop hx))]
    congr 1
    unfold Lib.bytesOf
    rw [List.map_drop]
  rw [e2] at e
  exact e
/-- A part of a slice from a place on. -/
theorem RB.drop {w : World} {b o c k : Nat} {xs : List Int} (h : RB w (some ⟨b, o, none⟩) c xs) (hk : k < xs.length) : RB w (some ⟨b, o + k, none⟩) (c - k) (xs.drop k) := by
  obtain ⟨h1, _, h3, h4⟩ := h
  obtain ⟨b', o', e, hc⟩ := h3 (by omega)
  obtain ⟨rfl, rfl⟩ : b = b' ∧ o = o' := by simpa using e
  refine RB.cells rfl (by simp; omega) (fun x hx => h4 x (List.mem_of_mem_drop hx)) fun i hi => ?_
  have hi' : k + i < xs.length := by simp at hi; omega
  rw [Nat.add_assoc, hc (k + i) hi']
  simp [List.getD]

set_option maxHeartbeats 1000000 in
theorem rdec_any (p : Option Addr) (c : Nat) (xs : List Int) (w : World) (hR : RB w p c xs) (hl : xs.length ≤ 140737488351232) : Calls Tryd.prog 10 #[.slice p xs.length c] w (RDecPost xs w) := by
  obtain ⟨L, hL⟩ : ∃ L, Lib.bytesOf xs = L := ⟨_, rfl⟩
  have hLl : L.length = xs.length := by rw [← hL, bytesOf_length]
  have HR : Hid (∀ w', Below w.heap.size w w' → RB w' p c xs) := fun w' hb => hR.below hb
  have HL : Hid (Lib.bytesOf xs = L) := hL
  have HLl : Hid (L.length = xs.length) := hLl
  have HW : Hid (∀ o o' : Obj, RB ((w.alloc o).alloc o') p c xs) := fun o o' => hR.below (two_boxes _ _ _)
  clear hL hLl
  go_enter Tryd.func10, Tryd.ntmps10
  go_wp2_with fail
  refine (starts_any p c 0 xs _ _ (HW.out _ _) (by decide) (by decide) (by decide) hl).mono ?_
  rintro e w1 ⟨rfl, rfl⟩
  rw [HL.out]
  cases h1 : startsB L 0 [80, 54, 10] with
  | false =>
    have h1' : startsB L 0 [80, 54, 10] = false := h1
    go_wp2
    exact bodyPost_ret (v := .agg #[.int .i64 0, .int .i64 0, .slice none 0 0, .int .i64 11]) (by simp [results, Tryd.results10, go_sem]) rfl (rdec_bad rfl (fun a' b' zs' hI => by have := head_one (HL.out.symm.trans hI.bytes); rw [h1] at this; cases this) (two_boxes _ _ _))
  | true =>
    have H1 : Hid (startsB L 0 [80, 54, 10] = true) := h1
    clear h1
    have h3 : 3 ≤ xs.length := by have := ((startsB_nat L 0 _).1 H1.out).1; rw [HLl.out] at this; simpa using this
    go_wp2_with fail
    refine (number_any p c 3 xs _ (HW.out _ _) (by omega) h3 hl).mono ?_
    rintro e w2 ⟨r1, r2, rfl, hn1, rfl⟩
    rw [HL.out] at hn1
    have HN1 : Hid (NumRes L 3 r1 r2) := hn1
    have hr2 : r2 ≤ 140737488351232 ∧ -1 ≤ r2 := by
      rcases hn1.2 with ⟨_, h⟩ | ⟨_, h, h', _⟩
      · omega
      · rw [HLl.out] at h'; omega
    clear hn1
    go_wp2_with fail
    refine (starts_any p c r2 xs _ _ (HW.out _ _) (by decide) (by decide) hr2.1 hl).mono ?_
    rintro e w3 ⟨rfl, rfl⟩
    rw [HL.out]
    cases h2 : startsB L r2 [32] with
    | false =>
      have h2' : startsB L r2 [32] = false := h2
      go_wp2
      exact bodyPost_ret (v := .agg #[.int .i64 0, .int .i64 0, .slice none 0 0, .int .i64 11]) (by simp [results, Tryd.results10, go_sem]) rfl (rdec_bad rfl (fun a' b' zs' hI => by have := (parse1 hI.1 (HL.out.symm.trans hI.bytes) HN1.out).2.2; rw [h2] at this; cases this) (two_boxes _ _ _))
    | true =>
      obtain ⟨hs1, e1, e2, e3⟩ : Side r1 ∧ r2 = ((3 + (Lib.itoa r1).length : Nat) : Int) ∧ 3 + (Lib.itoa r1).length ≤ L.length ∧ (L.drop 3).take (Lib.itoa r1).length = Lib.itoa r1 := by
        rcases HN1.out.2 with ⟨_, h⟩ | h
        · rw [h] at h2; simp [startsB] at h2
        · exact h
      obtain ⟨k1, hk1⟩ : ∃ k1, k1 = 3 + (Lib.itoa r1).length := ⟨_, rfl⟩
      obtain rfl : r2 = (k1 : Int) := by rw [e1, hk1]
      have H2 : Hid (startsB L k1 [32] = true) := h2
      have hlt := ((startsB_nat L k1 _).1 h2).1
      have hlt' : k1 + 1 ≤ xs.length := by rw [HLl.out] at hlt; simpa using hlt
      have HK1 : Hid (k1 = 3 + (Lib.itoa r1).length) := hk1
      have HE3 : Hid ((L.drop 3).take (Lib.itoa r1).length = Lib.itoa r1) := e3
      have HS1 : Hid (Side r1) := hs1
      clear h2 hlt hk1 e1 e2 e3 hs1
      go_wp2_with fail
      have hnum := number_any p c (k1 + 1) xs _ (HW.out (Obj.cells #[Value.int IntKind.i64 0, Value.int IntKind.i64 0, Value.slice none 0 0, Value.int IntKind.i64 0] 33) (Obj.cells #[Value.int IntKind.i64 0, Value.int IntKind.i64 0, Value.slice none 0 0, Value.int IntKind.i64 11] 33)) (by omega) hlt' hl
      rw [show ((k1 + 1 : Nat) : Int) = (k1 : Int) + 1 by omega] at hnum
      refine hnum.mono ?_
      clear hnum
      rintro e w4 ⟨s1, s2, rfl, hn2, rfl⟩
      rw [HL.out] at hn2
      have HN2 : Hid (NumRes L (k1 + 1) s1 s2) := hn2
      have hs2 : s2 ≤ 140737488351232 ∧ -1 ≤ s2 := by
        rcases hn2.2 with ⟨_, h⟩ | ⟨_, h, h', _⟩
        · omega
        · rw [HLl.out] at h'; omega
      clear hn2
      go_wp2_with fail
      refine (starts_any p c s2 xs _ _ (HW.out _ _) (by decide) (by decide) hs2.1 hl).mono ?_
      rintro e w5 ⟨rfl, rfl⟩
      rw [HL.out]
      cases h3 : startsB L s2 [10, 50, 53, 53, 10] with
      | false =>
        have h3' : startsB L s2 [10, 50, 53, 53, 10] = false := h3
        go_wp2
        exact bodyPost_ret (v := .agg #[.int .i64 0, .int .i64 0, .slice none 0 0, .int .i64 11]) (by simp [results, Tryd.results10, go_sem]) rfl (rdec_bad rfl (fun a' b' zs' hI => by
          have hB := HL.out.symm.trans hI.bytes
          have hp1 := parse1 hI.1 hB HN1.out
          have hN := HN2.out
          rw [HK1.out, hp1.1] at hN
          have := (parse2 hI.2.1 hB hN).2.2; rw [h3] at this; cases this) (two_boxes _ _ _))
      | true =>
        obtain ⟨ht1, e1, e2, e3⟩ : Side s1 ∧ s2 = ((k1 + 1 + (Lib.itoa s1).length : Nat) : Int) ∧ k1 + 1 + (Lib.itoa s1).length ≤ L.length ∧ (L.drop (k1 + 1)).take (Lib.itoa s1).length = Lib.itoa s1 := by
          rcases HN2.out.2 with ⟨_, h⟩ | h
          · rw [h] at h3; simp [startsB] at h3
          · exact h
        obtain ⟨k2, hk2⟩ : ∃ k2, k2 = k1 + 1 + (Lib.itoa s1).length := ⟨_, rfl⟩
        obtain rfl : s2 = (k2 : Int) := by rw [e1, hk2]
        have hp3 := parse3 H1.out HK1.out HE3.out H2.out hk2 e3 h3
        have hx := nums_drop hR.2.2.2 HL.out hp3.1
        have hle : k2 + 5 ≤ xs.length := by rw [← HLl.out]; exact hp3.2
        have HX : Hid (xs = nums (headL r1 s1) ++ xs.drop (k2 + 5)) := hx
        have HS2 : Hid (Side s1) := ht1
        obtain ⟨k5, hk5⟩ : ∃ k5, k5 = k2 + 5 := ⟨_, rfl⟩
        have hk5i : (k2 : Int) + 5 = (k5 : Int) := by omega
        rw [← hk5] at HX hle
        have a1 : 1 ≤ r1 := HS1.out.1
        have a2 : r1 ≤ 8192 := HS1.out.2
        have b1 : 1 ≤ s1 := HS2.out.1
        have b2 : s1 ≤ 8192 := HS2.out.2
        have hab : 1 ≤ r1 * s1 ∧ r1 * s1 ≤ 8192 * 8192 :=
          ⟨by have := Int.mul_le_mul (a := 1) (b := 1) (c := r1) (d := s1) (by omega) (by omega) (by omega) (by omega); omega, Int.mul_le_mul (by omega) (by omega) (by omega) (by omega)⟩
        have e4 : wrap64 (3 * r1 * s1) = 3 * r1 * s1 := by rw [Int.mul_assoc]; unfold wrap64; omega
        have hpos : 1 ≤ 3 * r1 * s1 := by rw [Int.mul_assoc]; omega
        have hcx : xs.length ≤ c := hR.1
        have h3' : startsB L k2 [10, 50, 53, 53, 10] = true := h3
        have hone : ∀ a' b' zs', Img xs a' b' zs' → a' = r1 ∧ b' = s1 ∧ zs' = xs.drop k5 := fun a' b' zs' hI => by
          have hB := hI.2.2.1
          rw [HX.out] at hB
          have hB2 : headL r1 s1 ++ Lib.bytesOf (xs.drop k5) = headL a' b' ++ Lib.bytesOf zs' := by
            have := congrArg Lib.bytesOf hB
            unfold Lib.bytesOf at this
            rw [List.map_append, List.map_append] at this
            have q1 := bytes_nums (headL r1 s1)
            have q2 := bytes_nums (headL a' b')
            unfold Lib.bytesOf at q1 q2 ⊢
            rw [q1, q2] at this
            exact this
          obtain ⟨rfl, rfl, _⟩ := headL_inj HS1.out HS2.out hI.1 hI.2.1 hB2
          exact ⟨rfl, rfl, (List.append_cancel_left hB).symm⟩
        have HONE : Hid (∀ a' b' zs', Img xs a' b' zs' → a' = r1 ∧ b' = s1 ∧ zs' = xs.drop k5) := hone
        clear hone e1 e2 e3 hk2 hp3 hx ht1 hab h3 hk5 h3'
        have hdl : (xs.drop k5).length = xs.length - k5 := List.length_drop
        have hcast : ((xs.length - k5 : Nat) : Int) = (xs.length : Int) - (k5 : Int) := by omega
        by_cases hlen : (xs.length : Int) - (k5 : Int) = 3 * r1 * s1
        · have hlt : k5 < xs.length := by omega
          obtain ⟨_, _, h3in, _⟩ := hR
          obtain ⟨bb, oo, rfl, _⟩ := h3in (by omega)
          have hRd := (HW.out (Obj.cells #[Value.int IntKind.i64 r1, Value.int IntKind.i64 s1, Value.slice (some ⟨bb, oo + k5, none⟩) (xs.length - k5) (c - k5), Value.int IntKind.i64 0] 33) (Obj.cells #[Value.int IntKind.i64 0, Value.int IntKind.i64 0, Value.slice none 0 0, Value.int IntKind.i64 11] 33)).drop hlt
          have HRd := Lib.hid hRd
          have hne : ((xs.length : Int) - (k5 : Int) != 3 * r1 * s1) = false := by simpa using hlen
          have HLEN := Lib.hid hlen
          have hkc : ¬ c = k5 := by omega
          clear hRd hlen hdl h3in
          go_wp2
          refine bodyPost_ret (v := .agg #[.int .i64 r1, .int .i64 s1, .slice (some ⟨bb, oo + k5, none⟩) (xs.length - k5) (c - k5), .int .i64 0]) (by simp [results, Tryd.results10, go_sem]) rfl ?_
          have hdl : (xs.drop k5).length = xs.length - k5 := List.length_drop
          refine ⟨r1, s1, _, c - k5, xs.drop k5, 0, by rw [hdl], .inl ⟨rfl, HS1.out, HS2.out, HX.out, ?_⟩, HRd.out, two_boxes _ _ _⟩
          rw [hdl, hcast]
          exact HLEN.out
        · have hne : ((xs.length : Int) - (k5 : Int) != 3 * r1 * s1) = true := by simpa using hlen
          have HLEN := Lib.hid hlen
          clear hlen hdl
          go_wp2
          all_goals
            refine bodyPost_ret (v := .agg #[.int .i64 0, .int .i64 0, .slice none 0 0, .int .i64 11]) (by simp [results, Tryd.results10, go_sem]) rfl (rdec_bad rfl (fun a' b' zs' hI => ?_) (two_boxes _ _ _))
            obtain ⟨rfl, rfl, e⟩ := HONE.out a' b' zs' hI
            have := hI.2.2.2
            rw [e, List.length_drop, hcast] at this
            exact HLEN.out this
end Go.Proofs.YtokfbeikpbnpgaaDoor
