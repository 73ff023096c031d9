/-
  The walk of ppm.Decode: what a file has, or that it has none.
-/
import Derived.Test.YtokfbeikpbnpgaaDoorWalksD
namespace Go.Proofs.YtokfbeikpbnpgaaDoor
open Go.RowKit

def PDecPost (xs : List Int) (w : World) (e : Ending) (w' : World) : Prop := ∃ (a b : Int) (p : Option Addr) (c : Nat) (zs : List Int) (q : Int),
  e = .returned (.tuple #[.int .i64 a, .int .i64 b, .slice p zs.length c, .int .i64 q]) ∧ DecS xs a b zs q ∧ RB w' p c zs ∧ Below w.heap.size w w'
theorem RB.take {w : World} {p : Option Addr} {c : Nat} {xs : List Int} (h : RB w p c xs) (m : Nat) : Lib.BytesIn w p (xs.take m).length (xs.take m) := fun hn => by
  obtain ⟨b, o, rfl, hc⟩ := h.2.2.1 (by simp at hn; omega)
  refine ⟨b, o, rfl, fun i hi => ?_⟩
  have hi' : i < m ∧ i < xs.length := by simp at hi; omega
  rw [hc i hi'.2]
  simp [List.getD, hi'.1]
theorem convert_take {w : World} {p : Option Addr} {c : Nat} {xs : List Int} (h : RB w p c xs) (m : Nat) (hm : m ≤ xs.length) (c' : Nat) : (convert 23 9 (.slice p m c')).run Tryd.prog w = .ok (.string (strOfNums (xs.take m))) w := by
  have hl : (xs.take m).length = m := by simp; omega
  have := (h.take m).convert (P := Tryd.prog) rfl c' 23 5 9 Tryd.underlying23 Tryd.underlying5 Tryd.underlying9
  rwa [hl] at this
theorem pdec_bad {xs : List Int} {w w' : World} {e : Ending} (he : e = .returned (.tuple #[.int .i64 0, .int .i64 0, .slice none 0 0, .int .i64 11])) (hn : ∀ a' b' zs', ¬ Img xs a' b' zs') (hb : Below w.heap.size w w') : PDecPost xs w e w' :=
  ⟨0, 0, none, 0, [], 11, he, .inr ⟨rfl, rfl, rfl, rfl, hn⟩, RB.nil _, hb⟩
theorem heads_of {xs zs : List Int} {a b : Int} (h : Img xs a b zs) : Heads (strOfNums (xs.take (min xs.length 19))) a b := by
  refine ⟨h.1, h.2.1, ?_⟩
  have hB := h.bytes
  have h17 := headL_length h.1 h.2.1
  have hp : (partL a b).length + 5 = (headL a b).length := by rw [headL_part]; simp
  have hlen : (headL a b).length ≤ xs.length := by
    have := congrArg List.length hB
    rw [bytesOf_length] at this
    simp at this
    omega
  have e : (strOfNums (xs.take (min xs.length 19))).data.toList = (Lib.bytesOf xs).take (min xs.length 19) := by
    rw [strOfNums_data]
    unfold Lib.bytesOf
    rw [List.map_take]
  rw [e, hB, headL_part]
  refine ⟨((50 :: [53, 53, 10] ++ Lib.bytesOf zs).take (min xs.length 19 - ((partL a b).length + 1))), ?_⟩
  have e2 : partL a b ++ [10, 50, 53, 53, 10] ++ Lib.bytesOf zs = (partL a b ++ [10]) ++ (50 :: [53, 53, 10] ++ Lib.bytesOf zs) := by simp
  rw [e2, List.take_append, List.take_of_length_le (by simp; omega)]
  simp
set_option maxHeartbeats 1000000 in
theorem pdec_any (p : Option Addr) (c : Nat) (xs : List Int) (w : World) (hR : RB w p c xs) (hl : xs.length ≤ 140737488351232) (ht : Tab w) : Calls Tryd.prog 9 #[.slice p xs.length c] w (PDecPost xs w) := by
  have hcx : xs.length ≤ c := hR.1
  have HH : Hid (∀ a b zs, Img xs a b zs → Heads (strOfNums (xs.take (min xs.length 19))) a b) := fun a b zs => heads_of
  obtain ⟨m, hm⟩ : ∃ m, min xs.length 19 = m := ⟨_, rfl⟩
  have hmin : min (xs.length : Int) 19 = (m : Int) := by omega
  have hml : m ≤ xs.length := by omega
  have hmc : m ≤ c := by omega
  rw [hm] at HH
  have kc := convert_take hR m hml c
  have HT := Lib.hid ht
  clear hm ht
  go_enter Tryd.func9, Tryd.ntmps9
  go_wp2_with fail
  refine (numbers_any (strOfNums (xs.take m)) w).mono ?_
  rintro e w1 ⟨a, b, rfl, hr, htell, hb1⟩
  have HB1 := Lib.hid hb1
  have HRR : Hid (RB w1 p c xs) := hR.below hb1
  have HTELL : Hid (∀ a' b' zs', Img xs a' b' zs' → a = a' ∧ b = b') := fun a' b' zs' h => htell a' b' (HH.out a' b' zs' h)
  have HT1 : Hid (Tab w1) := HT.out.on hb1
  clear htell hb1 HH
  by_cases ha : Side a
  · have HA := Lib.hid ha
    clear ha
    by_cases hb : Side b
    · have HBS := Lib.hid hb
      have hlen17 := headL_length HA.out hb
      clear hb
      go_wp2_with (first | (go_at_call 12; (with_reducible refine (side_yes a _ HA.out).mono ?_); rintro e w2 ⟨rfl, rfl⟩) | (go_at_call 12; (with_reducible refine (side_yes b _ HBS.out).mono ?_); rintro e w2 ⟨rfl, rfl⟩))
      refine (head_any a b w1 ⟨hr.1, hr.2.1⟩ hr.2.2 HT1.out).mono ?_
      rintro e w2 ⟨v, rfl, ⟨g, cap, rfl, hg, hcap, hcells, _⟩, hb2⟩
      have HB2 : Hid (Below w.heap.size w w2) := HB1.out.trans (hb2.mono HB1.out.size)
      have HR2 : Hid (RB w2 p c xs) := HRR.out.below hb2
      have HT2 : Hid (Tab w2) := HT1.out.on hb2
      have HIN : Hid (Lib.BytesIn w2 (some ⟨g, 0, none⟩) (headL a b).length (nums (headL a b))) := fun _ => ⟨g, 0, rfl, fun i hi => by rw [Nat.zero_add, hcells i hi, nums_get _ _ hi]⟩
      clear hcells hb2
      go_wp2_with fail
      refine (Tryd.bytes_HasPrefix_all p (some ⟨g, 0, none⟩) xs.length c (headL a b).length cap xs (nums (headL a b)) w2 rfl (nums_length _) hcx HR2.out.2.2.1 HIN.out).mono ?_
      rintro e w3 ⟨rfl, hw3⟩
      obtain rfl : w2 = w3 := hw3.symm
      rw [bytes_nums]
      cases hp : Lib.hasPrefix (Lib.bytesOf xs) (headL a b) with
      | false =>
        go_wp2
        exact bodyPost_ret (v := .tuple #[.int .i64 0, .int .i64 0, .slice none 0 0, .int .i64 11]) (by simp [results, Tryd.results9, go_sem]) rfl (pdec_bad rfl (fun a' b' zs' hI => by
          obtain ⟨rfl, rfl⟩ := HTELL.out a' b' zs' hI
          rw [hI.bytes] at hp
          rw [Lib.hasPrefix, List.isPrefixOf_iff_prefix.2 (List.prefix_append _ _)] at hp
          cases hp) HB2.out)
      | true =>
        have HP := Lib.hid hp
        clear hp
        go_wp2_with fail
        refine (head_any a b w2 ⟨hr.1, hr.2.1⟩ hr.2.2 HT2.out).mono ?_
        rintro e w3 ⟨v, rfl, ⟨g', cap', rfl, _, _, _, _⟩, hb3⟩
        have HB3 : Hid (Below w.heap.size w w3) := HB2.out.trans (hb3.mono HB2.out.size)
        have HR3 : Hid (RB w3 p c xs) := HR2.out.below hb3
        clear hb3
        have a1 : 1 ≤ a := HA.out.1
        have a2 : a ≤ 8192 := HA.out.2
        have b1 : 1 ≤ b := HBS.out.1
        have b2 : b ≤ 8192 := HBS.out.2
        have hab : 1 ≤ a * b ∧ a * b ≤ 8192 * 8192 :=
          ⟨by have := Int.mul_le_mul (a := 1) (b := 1) (c := a) (d := b) (by omega) (by omega) (by omega) (by omega); omega, Int.mul_le_mul (by omega) (by omega) (by omega) (by omega)⟩
        have e4 : wrap64 (3 * a * b) = 3 * a * b := by rw [Int.mul_assoc]; unfold wrap64; omega
        have hpos : 1 ≤ 3 * a * b := by rw [Int.mul_assoc]; omega
        obtain ⟨r, hr'⟩ : ∃ r, headL a b ++ r = Lib.bytesOf xs := List.isPrefixOf_iff_prefix.1 HP.out
        have hlx : (headL a b).length ≤ xs.length := by
          have := congrArg List.length hr'
          rw [bytesOf_length] at this
          simp at this
          omega
        obtain ⟨k5, hk5⟩ : ∃ k5, k5 = (headL a b).length := ⟨_, rfl⟩
        have hx0 : xs = nums (headL a b) ++ xs.drop (headL a b).length := nums_drop hR.2.2.2 rfl (by rw [← hr', List.drop_left' rfl])
        rw [← hk5] at hx0 hlx ⊢
        have HX := Lib.hid hx0
        have HONE : Hid (∀ a' b' zs', Img xs a' b' zs' → a' = a ∧ b' = b ∧ zs' = xs.drop k5) := fun a' b' zs' hI => by
          obtain ⟨rfl, rfl⟩ := HTELL.out a' b' zs' hI
          refine ⟨rfl, rfl, ?_⟩
          have := hI.2.2.1
          rw [HX.out] at this
          exact (List.append_cancel_left this).symm
        have hdl : (xs.drop k5).length = xs.length - k5 := List.length_drop
        have hcast : ((xs.length - k5 : Nat) : Int) = (xs.length : Int) - (k5 : Int) := by omega
        clear hr' hx0 hab hk5
        by_cases hlen : (xs.length : Int) - (k5 : Int) = 3 * a * b
        · have hlt : k5 < xs.length := by omega
          obtain ⟨_, _, h3in, hrg⟩ := hR
          obtain ⟨bb, oo, rfl, _⟩ := h3in (by omega)
          have hRd := HR3.out.drop hlt
          obtain ⟨_, _, hin5, hrg5⟩ := hRd
          obtain ⟨b5, o5, e5, hc5⟩ := hin5 (by omega)
          obtain ⟨rfl, rfl⟩ : bb = b5 ∧ oo + k5 = o5 := by simpa using e5
          have hne : ((xs.length : Int) - (k5 : Int) != 3 * a * b) = false := by simpa using hlen
          have HLEN := Lib.hid hlen
          have hkc : ¬ c = k5 := by omega
          have HC5 : Hid (∀ i, i < xs.length - k5 → w3.cell? ((⟨bb, oo + k5, none⟩ : Addr).add i) = some (.int .u8 ((xs.drop k5).getD i 0))) := fun i hi => by
            rw [Addr.add_lit]; exact hc5 i (by omega)
          have HDL := Lib.hid hdl
          have HRG5 := Lib.hid hrg5
          clear hlen hdl h3in hin5 hrg hrg5 hc5 e5
          go_wp2_with fail
          refine (Tryd.bytes_Clone_at ⟨bb, oo + k5, none⟩ (xs.length - k5) (c - k5) (xs.drop k5) w3 HDL.out (by omega) HC5.out).mono ?_
          rintro e w4 ⟨v, rfl, hown, _, hb4⟩
          rw [← HDL.out] at hown
          obtain ⟨p4, c4, rfl, hR4⟩ := RB.own hown HRG5.out
          have HR4 := Lib.hid hR4
          have HB4 := Lib.hid (HB3.out.trans (hb4.mono HB3.out.size))
          clear hown hR4 hb4
          go_wp2
          refine bodyPost_ret (v := .tuple #[.int .i64 a, .int .i64 b, .slice p4 (xs.drop k5).length c4, .int .i64 0]) (by simp [results, Tryd.results9, go_sem]) rfl ?_
          refine ⟨a, b, p4, c4, xs.drop k5, 0, rfl, .inl ⟨rfl, HA.out, HBS.out, HX.out, ?_⟩, HR4.out, HB4.out⟩
          rw [HDL.out, hcast]
          exact HLEN.out
        · have hne : ((xs.length : Int) - (k5 : Int) != 3 * a * b) = true := by simpa using hlen
          have HLEN := Lib.hid hlen
          clear hlen hdl
          go_wp2
          all_goals
            refine bodyPost_ret (v := .tuple #[.int .i64 0, .int .i64 0, .slice none 0 0, .int .i64 11]) (by simp [results, Tryd.results9, go_sem]) rfl (pdec_bad rfl (fun a' b' zs' hI => ?_) HB3.out)
            obtain ⟨rfl, rfl, e⟩ := HONE.out a' b' zs' hI
            have := hI.2.2.2
            rw [e, List.length_drop, hcast] at this
            exact HLEN.out this
    · go_wp2_with (first | (go_at_call 12; (with_reducible refine (side_yes a _ HA.out).mono ?_); rintro e w2 ⟨rfl, rfl⟩) | (go_at_call 12; (with_reducible refine (side_no b _ hb).mono ?_); rintro e w2 ⟨rfl, rfl⟩))
      exact bodyPost_ret (v := .tuple #[.int .i64 0, .int .i64 0, .slice none 0 0, .int .i64 11]) (by simp [results, Tryd.results9, go_sem]) rfl (pdec_bad rfl (fun a' b' zs' hI => hb (by rw [(HTELL.out a' b' zs' hI).2]; exact hI.2.1)) HB1.out)
  · go_wp2_with (first | (go_at_call 12; (with_reducible refine (side_no a _ ha).mono ?_); rintro e w2 ⟨rfl, rfl⟩))
    exact bodyPost_ret (v := .tuple #[.int .i64 0, .int .i64 0, .slice none 0 0, .int .i64 11]) (by simp [results, Tryd.results9, go_sem]) rfl (pdec_bad rfl (fun a' b' zs' hI => ha (by rw [(HTELL.out a' b' zs' hI).1]; exact hI.1)) HB1.out)
end Go.Proofs.YtokfbeikpbnpgaaDoor
