/-
  The walks of the reference's starts and number.
-/
import Derived.Test.YtokfbeikpbnpgaaDoorWalksB
namespace Go.Proofs.YtokfbeikpbnpgaaDoor
open Go.RowKit

theorem starts_neg (p : Option Addr) (c n : Nat) (i : Int) (s : ByteArray) (w : World) (h : i < 0) :
    Calls Tryd.prog 18 #[.slice p n c, .int .i64 i, .string s] w fun e w' => e = .returned (.bool false) ∧ w = w' := by
  have h' : ¬ 0 ≤ i := by omega
  go_enter Tryd.func18, Tryd.ntmps18
  go_wp2
  go_ret
  exact ⟨rfl, rfl⟩
theorem starts_out (p : Option Addr) (c n k : Nat) (s : ByteArray) (w : World) (h : n < k + s.size) (hk : k ≤ 140737488351232) (hs : s.size ≤ 100) :
    Calls Tryd.prog 18 #[.slice p n c, .int .i64 k, .string s] w fun e w' => e = .returned (.bool false) ∧ w = w' := by
  have h' : ¬ (k : Int) + s.size ≤ n := by omega
  go_enter Tryd.func18, Tryd.ntmps18
  go_wp2
  go_ret
  exact ⟨rfl, rfl⟩
theorem convert_part {b o c k m : Nat} {xs : List Int} {w : World} (h : k + m ≤ xs.length)
    (hc : ∀ i, i < xs.length → w.cell? ⟨b, o + i, none⟩ = some (.int .u8 (xs.getD i 0))) :
    (convert 23 9 (.slice (some ⟨b, o + k, none⟩) m c)).run Tryd.prog w = .ok (.string (strOfNums ((xs.drop k).take m))) w :=
  run_convert_bytes_arg (P := Tryd.prog) _ 23 5 Tryd.underlying23 Tryd.underlying5 b (o + k) m c ((xs.drop k).take m) (by simp; omega) (fun i hi => by
    rw [Nat.add_assoc, hc (k + i) (by omega)]
    simp [List.getD, List.getElem?_drop, hi]) 9 Tryd.underlying9
set_option maxHeartbeats 400000 in
theorem starts_in (b o c k : Nat) (xs : List Int) (s : ByteArray) (w : World) (h : k + s.size ≤ xs.length) (h0 : 0 < s.size) (hnc : xs.length ≤ c) (hl : xs.length ≤ 140737488351232)
    (hc : ∀ i, i < xs.length → w.cell? ⟨b, o + i, none⟩ = some (.int .u8 (xs.getD i 0))) :
    Calls Tryd.prog 18 #[.slice (some ⟨b, o, none⟩) xs.length c, .int .i64 k, .string s] w fun e w' => e = .returned (.bool ((strOfNums ((xs.drop k).take s.size)).toList == s.toList)) ∧ w = w' := by
  have h' : (k : Int) + s.size ≤ xs.length := by omega
  have kc := convert_part (c := c - k) h hc
  have hk : ¬ c = k := by omega
  clear hc
  go_enter Tryd.func18, Tryd.ntmps18
  go_wp2
  go_ret
  exact ⟨rfl, rfl⟩

/-! ### number -/
def NumInv (L : List UInt8) (k j : Nat) : Prop := k ≤ j ∧ j ≤ L.length ∧ j ≤ k + 5 ∧ ∀ c ∈ (L.drop k).take (j - k), Dig c
def nv (L : List UInt8) (k j : Nat) : Nat := val ((L.drop k).take (j - k))
def NumRes (L : List UInt8) (k : Nat) (r1 r2 : Int) : Prop :=
  (∀ m c r, Side m → L.drop k = Lib.itoa m ++ c :: r → ¬ Dig c → r1 = m ∧ r2 = ((k + (Lib.itoa m).length : Nat) : Int)) ∧
  ((r1 = 0 ∧ r2 = -1) ∨ (Side r1 ∧ r2 = ((k + (Lib.itoa r1).length : Nat) : Int) ∧ k + (Lib.itoa r1).length ≤ L.length ∧ (L.drop k).take (Lib.itoa r1).length = Lib.itoa r1))
theorem num_start {L : List UInt8} {k : Nat} (h : k ≤ L.length) : NumInv L k k := ⟨Nat.le_refl _, h, by omega, by simp⟩
theorem nv_start (L : List UInt8) (k : Nat) : nv L k k = 0 := by simp [nv, val]
theorem piece_snoc {L : List UInt8} {k j : Nat} (hk : k ≤ j) (h : j < L.length) : (L.drop k).take (j + 1 - k) = (L.drop k).take (j - k) ++ [L[j]] := by
  rw [show j + 1 - k = (j - k) + 1 by omega, List.take_succ_eq_append_getElem (by simp; omega)]
  simp [show k + (j - k) = j by omega]
theorem num_step {L : List UInt8} {k j : Nat} (hI : NumInv L k j) (h : j < L.length) (h5 : j < k + 5) (hd : Dig L[j]) : NumInv L k (j + 1) ∧ nv L k (j + 1) = nv L k j * 10 + (L[j].toNat - 48) := by
  obtain ⟨h1, h2, h3, h4⟩ := hI
  refine ⟨⟨by omega, by omega, by omega, fun c hc => ?_⟩, ?_⟩
  · rw [piece_snoc h1 h] at hc
    rcases List.mem_append.1 hc with hc | hc
    · exact h4 c hc
    · simp only [List.mem_singleton] at hc; rw [hc]; exact hd
  · unfold nv
    rw [piece_snoc h1 h, val_snoc]
theorem nv_lt {L : List UInt8} {k j : Nat} (hI : NumInv L k j) : nv L k j < 100000 := by
  obtain ⟨h1, h2, h3, h4⟩ := hI
  have := val_lt _ h4
  have h6 : ((L.drop k).take (j - k)).length ≤ 5 := by simp; omega
  have h5 : 10 ^ ((L.drop k).take (j - k)).length ≤ 10 ^ 5 := Nat.pow_le_pow_right (by decide) h6
  unfold nv
  omega
/-- Where the loop ends. -/
def NumOut (L : List UInt8) (k j : Nat) : Prop := NumInv L k j ∧ (j = L.length ∨ j = k + 5 ∨ ∃ h : j < L.length, ¬ Dig L[j])
theorem num_whole {L : List UInt8} {k j : Nat} (h : NumOut L k j) {m : Int} {c : UInt8} {r : List UInt8} (hm : Side m) (e : L.drop k = Lib.itoa m ++ c :: r) (hc : ¬ Dig c) : (L.drop k).take (j - k) = Lib.itoa m ∧ j = k + (Lib.itoa m).length := by
  obtain ⟨⟨h1, h2, h3, h4⟩, ho⟩ := h
  have hl := side_len hm
  have hlen : L.length - k = (Lib.itoa m).length + (r.length + 1) := by
    have := congrArg List.length e
    simpa using this
  have hle : ¬ (Lib.itoa m).length < j - k := fun hlt => by
    refine hc (h4 c ?_)
    rw [e, List.take_append, List.mem_append]
    refine .inr ?_
    obtain ⟨q, hq⟩ : ∃ q, j - k - (Lib.itoa m).length = q + 1 := ⟨j - k - (Lib.itoa m).length - 1, by omega⟩
    rw [hq]; simp
  have hge : ¬ j - k < (Lib.itoa m).length := fun hlt => by
    rcases ho with ho | ho | ⟨hj, ho⟩
    · omega
    · omega
    · refine ho (side_dig hm _ ?_)
      have e2 : L[j] = (L.drop k)[j - k]'(by simp; omega) := by simp [show k + (j - k) = j by omega]
      rw [e2]
      simp only [e]
      rw [List.getElem_append_left hlt]
      exact List.getElem_mem _
  have e3 : j - k = (Lib.itoa m).length := by omega
  refine ⟨?_, by omega⟩
  rw [e3, e, List.take_left']
  rfl
theorem num_none {L : List UInt8} {k : Nat} (h : NumOut L k k) : NumRes L k 0 (-1) :=
  ⟨fun m c r hm e hc => by have := (num_whole h hm e hc).2; have := side_len hm; omega, .inl ⟨rfl, rfl⟩⟩
theorem num_zero {L : List UInt8} {k j : Nat} (h : NumOut L k j) (hk : k < L.length) (h0 : L[k].toNat = 48) : NumRes L k 0 (-1) :=
  ⟨fun m c r hm e hc => by
    have e1 := (num_whole h hm e hc).1
    have hl := side_len hm
    have hh := dec_head m.toNat (by have := hm.1; omega)
    rw [← itoa_side hm] at hh
    have : (L.drop k).head? = some 48 := by
      rw [List.head?_drop, List.getElem?_eq_getElem hk]
      congr 1
      exact UInt8.toNat_inj.1 h0
    rw [e, List.head?_append] at this
    cases hi : Lib.itoa m with
    | nil => rw [hi] at hl; simp at hl
    | cons a l => rw [hi] at hh this; simp at this hh; exact absurd this hh, .inl ⟨rfl, rfl⟩⟩
theorem num_big {L : List UInt8} {k j : Nat} (h : NumOut L k j) (hb : 8192 < nv L k j) : NumRes L k 0 (-1) :=
  ⟨fun m c r hm e hc => by
    have e1 := (num_whole h hm e hc).1
    unfold nv at hb
    rw [e1, itoa_side hm, val_dec] at hb
    have := hm.2
    omega, .inl ⟨rfl, rfl⟩⟩
theorem num_good {L : List UInt8} {k j : Nat} (h : NumOut L k j) (hjk : j ≠ k) (hk : k < L.length) (h0 : L[k].toNat ≠ 48) (hb : nv L k j ≤ 8192) : NumRes L k (nv L k j) j := by
  refine ⟨fun m c r hm e hc => ?_, .inr ?_⟩
  · obtain ⟨e1, e2⟩ := num_whole h hm e hc
    refine ⟨?_, by rw [e2]⟩
    unfold nv
    rw [e1, itoa_side hm, val_dec]
    have := hm.1
    omega
  · obtain ⟨⟨h1, h2, h3, h4⟩, _⟩ := h
    have hne : (L.drop k).take (j - k) ≠ [] := fun e => by
      have := congrArg List.length e
      simp at this
      omega
    have hh : ((L.drop k).take (j - k)).head? ≠ some 48 := by
      rw [List.head?_take, if_neg (by omega), List.head?_drop, List.getElem?_eq_getElem hk]
      intro e
      have := Option.some.inj e
      rw [this] at h0
      exact h0 rfl
    have hp := val_pos _ h4 hne hh
    have hv := dec_val _ hne h4 hh
    have hs : Side (nv L k j : Nat) := ⟨by unfold nv; omega, by omega⟩
    have hi : Lib.itoa (nv L k j : Nat) = (L.drop k).take (j - k) := by rw [itoa_side hs, Int.toNat_natCast]; exact hv
    refine ⟨hs, ?_, ?_, ?_⟩
    · rw [hi]; simp; omega
    · rw [hi]; simp; omega
    · rw [hi]; congr 1; simp; omega
theorem byte_of {xs : List Int} (hr : ∀ x ∈ xs, 0 ≤ x ∧ x < 256) {j : Nat} (h : j < xs.length) : ∃ x : Int, xs.getD j 0 = x ∧ 0 ≤ x ∧ x < 256 ∧ (((Lib.bytesOf xs)[j]'(by simpa [Lib.bytesOf] using h)).toNat : Int) = x := by
  have := hr xs[j] (List.getElem_mem _)
  refine ⟨xs[j], by simp [List.getD, h], this.1, this.2, ?_⟩
  simp only [Lib.bytesOf, List.getElem_map, UInt8.toNat_ofNat']
  omega
theorem bytesOf_length (xs : List Int) : (Lib.bytesOf xs).length = xs.length := by simp [Lib.bytesOf]
def NumPost2 (xs : List Int) (k : Nat) (w : World) (e : Ending) (w' : World) : Prop := ∃ r1 r2 : Int, e = .returned (.tuple #[.int .i64 r1, .int .i64 r2]) ∧ NumRes (Lib.bytesOf xs) k r1 r2 ∧ w = w'
theorem dig_int {c : UInt8} {x : Int} (h : (c.toNat : Int) = x) : Dig c ↔ 48 ≤ x ∧ x ≤ 57 := by unfold Dig; omega
set_option maxHeartbeats 1000000 in
theorem number_at (b o c k : Nat) (xs : List Int) (w : World) (hk : k ≤ xs.length) (hl : xs.length ≤ 140737488351232) (hr : ∀ x ∈ xs, 0 ≤ x ∧ x < 256)
    (hc : ∀ i, i < xs.length → w.cell? ⟨b, o + i, none⟩ = some (.int .u8 (xs.getD i 0))) :
    Calls Tryd.prog 19 #[.slice (some ⟨b, o, none⟩) xs.length c, .int .i64 k] w (NumPost2 xs k w) := by
  obtain ⟨L, hL⟩ : ∃ L, Lib.bytesOf xs = L := ⟨_, rfl⟩
  have hLl : L.length = xs.length := by rw [← hL, bytesOf_length]
  have HC : Hid (∀ i, i < xs.length → w.cell? ⟨b, o + i, none⟩ = some (.int .u8 (xs.getD i 0))) := hc
  have HL : Hid (Lib.bytesOf xs = L) := hL
  have HLl : Hid (L.length = xs.length) := hLl
  clear hc hL hLl
  go_enter Tryd.func19, Tryd.ntmps19
  go_wp2
  go_loop [6, 7] (fun v6 v7 => ∃ j : Nat, v6 = .int .i64 (nv L k j) ∧ v7 = .int .i64 j ∧ Hid (NumInv L k j) ∧ k ≤ j ∧ j ≤ xs.length) (fun _ v7 => xs.length - (intOf v7).toNat)
  case atStart => exact ⟨k, by rw [nv_start]; rfl, rfl, num_start (by rw [HLl.out]; exact hk), Nat.le_refl _, hk⟩
  case round =>
    obtain ⟨j, rfl, rfl, hI, hkj, hj⟩ := hrel
    have hv := nv_lt hI.out
    have fin : NumOut L k j → Hid (j ≠ k → ∃ x0, xs.getD k 0 = x0 ∧ w.cell? ⟨b, o + k, none⟩ = some (.int .u8 x0) ∧ 0 ≤ x0 ∧ ((x0 = 48 → NumRes L k 0 (-1)) ∧ (8192 < nv L k j → NumRes L k 0 (-1)) ∧ (x0 ≠ 48 → ¬ 8192 < nv L k j → NumRes L k (nv L k j) j))) := fun hO hne => by
      have hklt : k < xs.length := by omega
      have hklt' : k < L.length := by rw [HLl.out]; exact hklt
      obtain ⟨x0, hx0, h0, h1, h2⟩ := byte_of hr hklt
      have h2' : (L[k].toNat : Int) = x0 := by rw [← h2]; congr 2; exact List.getElem_of_eq HL.out.symm _
      refine ⟨x0, hx0, by rw [HC.out k hklt, hx0], h0, fun h => num_zero hO hklt' (by omega), fun h => num_big hO h, fun h h' => num_good hO hne hklt' (by omega) (by omega)⟩
    have ways : (∃ x : Int, j < xs.length ∧ (j : Int) < (k : Int) + 5 ∧ w.cell? ⟨b, o + j, none⟩ = some (.int .u8 x) ∧ 48 ≤ x ∧ x ≤ 57 ∧ Hid (NumInv L k (j + 1)) ∧ Hid ((nv L k (j + 1) : Int) = (nv L k j : Int) * 10 + (x - 48))) ∨
        (NumOut L k j ∧ ((¬ j < xs.length) ∨ (j < xs.length ∧ ¬ (j : Int) < (k : Int) + 5) ∨ (∃ x : Int, j < xs.length ∧ (j : Int) < (k : Int) + 5 ∧ w.cell? ⟨b, o + j, none⟩ = some (.int .u8 x) ∧ ¬ 48 ≤ x) ∨ (∃ x : Int, j < xs.length ∧ (j : Int) < (k : Int) + 5 ∧ w.cell? ⟨b, o + j, none⟩ = some (.int .u8 x) ∧ 48 ≤ x ∧ ¬ x ≤ 57))) := by
      by_cases h1 : j < xs.length
      · have hjl : j < L.length := by rw [HLl.out]; exact h1
        by_cases h2 : j < k + 5
        · obtain ⟨x, hx, hx0, hx1, hx2⟩ := byte_of hr h1
          have hx2' : (L[j].toNat : Int) = x := by rw [← hx2]; congr 2; exact List.getElem_of_eq HL.out.symm _
          have hcell : w.cell? ⟨b, o + j, none⟩ = some (.int .u8 x) := by rw [HC.out j h1, hx]
          by_cases hd : 48 ≤ x ∧ x ≤ 57
          · obtain ⟨hs1, hs2⟩ := num_step hI.out hjl (by omega) ((dig_int hx2').2 hd)
            exact .inl ⟨x, h1, by omega, hcell, hd.1, hd.2, hs1, by unfold Hid; omega⟩
          · refine .inr ⟨⟨hI.out, .inr (.inr ⟨hjl, fun h => hd ((dig_int hx2').1 h)⟩)⟩, ?_⟩
            by_cases h48 : 48 ≤ x
            · exact .inr (.inr (.inr ⟨x, h1, by omega, hcell, h48, fun h => hd ⟨h48, h⟩⟩))
            · exact .inr (.inr (.inl ⟨x, h1, by omega, hcell, h48⟩))
        · exact .inr ⟨⟨hI.out, .inr (.inl (by have := hI.out.2.2.1; omega))⟩, .inr (.inl ⟨h1, by omega⟩)⟩
      · exact .inr ⟨⟨hI.out, .inl (by rw [HLl.out]; omega)⟩, .inl h1⟩
    clear hI
    rcases ways with ⟨x, h1, h2i, hcell, hd1, hd2, Hs1, Hs2⟩ | ⟨hO, ways⟩
    · clear fin
      go_wp2
      go_round
      case rel => exact ⟨j + 1, by rw [Hs2.out], by go_num, Hs1, by omega, by omega⟩
      case measure => simp [intOf]; omega
    · have hf := fin hO
      have HO : Hid (NumOut L k j) := hO
      clear fin hO
      by_cases hjk : j = k
      · subst hjk
        have HR : Hid (NumRes L j 0 (-1)) := num_none HO.out
        clear hf HO
        rcases ways with h1 | ⟨h1, h2⟩ | ⟨x, h1, h2, hcell, h3⟩ | ⟨x, h1, h2, hcell, h3, h4⟩
        all_goals
          go_wp2
          go_ret2
          exact ⟨0, -1, rfl, by rw [HL.out]; exact HR.out, rfl⟩
      · have hjk' : ((j : Int) == (k : Int)) = false := by simp; omega
        have hklt : k < xs.length := by omega
        obtain ⟨x0, _, hcell0, h00, hres⟩ := hf.out hjk
        have HRES : Hid ((x0 = 48 → NumRes L k 0 (-1)) ∧ (8192 < nv L k j → NumRes L k 0 (-1)) ∧ (x0 ≠ 48 → ¬ 8192 < nv L k j → NumRes L k (nv L k j) j)) := hres
        clear hf HO hres hjk
        by_cases h48 : x0 = 48
        · have HR : Hid (NumRes L k 0 (-1)) := HRES.out.1 h48
          have h48' : (x0 == 48) = true := by simpa using h48
          clear HRES h48
          rcases ways with h1 | ⟨h1, h2⟩ | ⟨x, h1, h2, hcell, h3⟩ | ⟨x, h1, h2, hcell, h3, h4⟩
          all_goals
            go_wp2
            go_ret2
            exact ⟨0, -1, rfl, by rw [HL.out]; exact HR.out, rfl⟩
        · have h48' : (x0 == 48) = false := by simpa using h48
          by_cases hb : 8192 < nv L k j
          · have HR : Hid (NumRes L k 0 (-1)) := HRES.out.2.1 hb
            have hb' : (8192 : Int) < (nv L k j : Int) := by omega
            clear HRES h48
            rcases ways with h1 | ⟨h1, h2⟩ | ⟨x, h1, h2, hcell, h3⟩ | ⟨x, h1, h2, hcell, h3, h4⟩
            all_goals
              go_wp2
              go_ret2
              exact ⟨0, -1, rfl, by rw [HL.out]; exact HR.out, rfl⟩
          · have HR : Hid (NumRes L k (nv L k j) j) := HRES.out.2.2 h48 hb
            have hb' : ¬ (8192 : Int) < (nv L k j : Int) := by omega
            clear HRES h48
            rcases ways with h1 | ⟨h1, h2⟩ | ⟨x, h1, h2, hcell, h3⟩ | ⟨x, h1, h2, hcell, h3, h4⟩
            all_goals
              go_wp2
              go_ret2
              exact ⟨_, _, rfl, by rw [HL.out]; exact HR.out, rfl⟩
end Go.Proofs.YtokfbeikpbnpgaaDoor
