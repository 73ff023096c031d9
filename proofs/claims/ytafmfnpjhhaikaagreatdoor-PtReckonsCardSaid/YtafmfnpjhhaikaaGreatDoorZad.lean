/-
  nat: a part of its walk.
-/
import Derived.Test.YtafmfnpjhhaikaaGreatDoorZac
import Derived.Test.YtafmfnpjhhaikaaGreatDoorShelf
import Derived.Lib.ItoaNum
import Derived.Laws.BitsAllLaws
namespace Go.Proofs.YtafmfnpjhhaikaaGreatDoor
open Go.RowKit Go.Shelf
theorem lz_any (y : Nat) (h0 : 0 < y) (hy : y < B64) : ∃ s, s < 64 ∧ 2 ^ 63 ≤ y * 2 ^ s ∧ y * 2 ^ s < B64 ∧ ∀ w, Calls Tryz.prog 200 #[.int .u64 (y : Int)] w fun e w' => e = .returned (.int .i64 (s : Nat)) ∧ w' = w := by
  obtain ⟨h1, h2, h3⟩ := Lib.bitLenAux_bounds 64 y hy (by omega)
  obtain ⟨b, hb⟩ : ∃ b, Lib.bitLenAux 64 y = b := ⟨_, rfl⟩
  rw [hb] at h1 h2 h3
  have hb64 : b ≤ 64 := by
    by_cases h : b ≤ 64
    · exact h
    · have h4 : 2 ^ 64 ≤ 2 ^ (b - 1) := Nat.pow_le_pow_right (by omega) (by omega)
      unfold B64 at hy
      omega
  refine ⟨64 - b, by omega, ?_, ?_, fun w => ?_⟩
  · have e : 2 ^ 63 = 2 ^ (b - 1) * 2 ^ (64 - b) := by rw [← Nat.pow_add]; congr 1; omega
    rw [e]
    exact Nat.mul_le_mul_right _ h2
  · have e : B64 = 2 ^ b * 2 ^ (64 - b) := by rw [← Nat.pow_add, show b + (64 - b) = 64 by omega]; rfl
    rw [e]
    exact Nat.mul_lt_mul_of_pos_right h3 (Nat.pow_pos (by omega))
  · have h := Tryz.bits_LeadingZeros64 (y : Int) w (by omega) (by unfold B64 at hy; omega)
    have e : Lib.bitLen ((y : Int)).toNat = b := by rw [Int.toNat_natCast]; exact hb
    rw [e] at h
    rw [show ((64 - b : Nat) : Int) = 64 - (b : Int) by omega]
    exact h
theorem word_whole {hi lo W C L B : Nat} (h : lo * W = C * B + L) : (hi * B + lo) * W = (hi * W + C) * B + L := by
  rw [Nat.add_mul, h, Nat.add_mul]
  have e : hi * B * W = hi * W * B := by rw [Nat.mul_assoc, Nat.mul_comm B W, Nat.mul_assoc]
  omega
theorem b64_split {s : Nat} (hs : s ≤ 64) : 2 ^ (64 - s) * 2 ^ s = B64 := by
  rw [← Nat.pow_add, show 64 - s + s = 64 by omega]; rfl
theorem pow_pos2 (s : Nat) : 0 < 2 ^ s := Nat.pow_pos (by omega)
theorem word_shift {lo s : Nat} (hs : s ≤ 64) (hlo : lo < B64) : lo * 2 ^ s = lo / 2 ^ (64 - s) * B64 + lo * 2 ^ s % B64 ∧ lo / 2 ^ (64 - s) < 2 ^ s := by
  have h := Nat.div_add_mod (lo * 2 ^ s) B64
  have h2 : lo * 2 ^ s / B64 = lo / 2 ^ (64 - s) := by rw [← b64_split hs]; exact Nat.mul_div_mul_right _ _ (pow_pos2 s)
  rw [h2, Nat.mul_comm] at h
  refine ⟨h.symm, ?_⟩
  rw [Nat.div_lt_iff_lt_mul (pow_pos2 _), Nat.mul_comm, b64_split hs]
  exact hlo
theorem word_over {a C s : Nat} (hC : C < 2 ^ s) : (a * 2 ^ s ||| C) = a * 2 ^ s + C := by
  rw [Nat.mul_comm]
  exact (Nat.two_pow_add_eq_or_of_lt hC a).symm
theorem word_or {a C s : Nat} (h : a * 2 ^ s < B64) (hC : C < 2 ^ s) (hC2 : C < B64) : bits .or .u64 ((a * 2 ^ s : Nat) : Int) (C : Int) = ((a * 2 ^ s + C : Nat) : Int) := by
  rw [u64_or_nat _ _ h hC2, word_over hC]
theorem word_low (a : Nat) (h : a < B64) : bits .and .u64 (a : Int) 4294967295 = ((a % H32 : Nat) : Int) := by
  have h1 := u64_and_nat a 4294967295 h (by decide)
  have e : (a &&& 4294967295) = a % H32 := Nat.and_two_pow_sub_one_eq_mod a 32
  rw [e] at h1
  exact h1
theorem word_shl {y s : Nat} (h : y * 2 ^ s < B64) : IntKind.u64.wrap ((y : Int) * 2 ^ s) = ((y * 2 ^ s : Nat) : Int) := by
  have := wrap64u h
  rw [Int.natCast_mul, Int.natCast_pow] at this
  rw [Int.natCast_mul, Int.natCast_pow]
  exact this
theorem word_shl_low {y s : Nat} : IntKind.u64.wrap ((y : Int) * 2 ^ s) = ((y * 2 ^ s % B64 : Nat) : Int) := by
  rw [IntKind.wrap_u64, Int.natCast_emod, Int.natCast_mul, Int.natCast_pow]
  rfl
set_option maxHeartbeats 1000000 in
set_option maxRecDepth 100000 in
theorem div64_small (lo y : Nat) (hy : 0 < y) (hlo : lo < B64) (w : World) :
    Calls Tryz.prog 190 #[.int .u64 0, .int .u64 (lo : Int), .int .u64 (y : Int)] w fun e w' => e = .returned (.tuple #[.int .u64 ((lo / y : Nat) : Int), .int .u64 ((lo % y : Nat) : Int)]) ∧ ∃ n, w' = w.drewN n := by
  have h1 : ((y : Int) == 0) = false := beq_false_of_ne (by omega)
  have h2 : decide ((y : Int) ≤ 0) = false := decide_eq_false (by omega)
  have e1 : (lo : Int) / (y : Int) = ((lo / y : Nat) : Int) := by rw [Int.natCast_ediv]
  have e2 : (lo : Int) % (y : Int) = ((lo % y : Nat) : Int) := by rw [Int.natCast_emod]
  have e3 := wrap64u (n := lo / y) (Nat.lt_of_le_of_lt (Nat.div_le_self _ _) hlo)
  obtain ⟨Q, hQ⟩ : ∃ q, lo / y = q := ⟨_, rfl⟩
  obtain ⟨R, hR⟩ : ∃ q, lo % y = q := ⟨_, rfl⟩
  rw [hQ] at e1 e3 ⊢
  rw [hR] at e2 ⊢
  clear hQ hR
  go_enter Tryz.func190, Tryz.ntmps190
  go_wp2
  go_quiet (fail)
  go_wp2
  go_ret2
  exact ⟨by rw [← e2]; rfl, _, rfl⟩
theorem half_pack {u l Y y1 y0 : Nat} (hYd : Y = y1 * H32 + y0) (hm : Y < B64) (hy0 : y0 < H32) (hy1 : 2147483648 ≤ y1) (hy2 : y1 < H32) (huY : u < Y) (hl : l < H32) :
    ∃ Q0 R0 Q1 v K1 K2 K3 : Nat, ((u : Int) / (y1 : Int) = (Q0 : Int) ∧ IntKind.u64.wrap (Q0 : Int) = (Q0 : Int) ∧ IntKind.u64.wrap ((Q0 : Int) * (y1 : Int)) = (Q0 : Int) * (y1 : Int) ∧ IntKind.u64.wrap ((u : Int) - (Q0 : Int) * (y1 : Int)) = (R0 : Int)) ∧
      (Q0 * y1 + R0 = u ∧ R0 < H32 ∧ Q1 ≤ Q0 ∧ Q0 ≤ H32 + 1 ∧ Q1 < H32) ∧
      ((∀ q, H32 ≤ q → Q1 < q) ∧ (∀ q r, q * y1 + r = u → H32 * r + l < q * y0 → Q1 < q) ∧ (∀ q r, q * y1 + r = u → q * y0 ≤ H32 * r + l → Q1 ≤ q → Q1 = q)) ∧
      ((u * H32 + l) / Y = Q1 ∧ (u * H32 + l) % Y = v ∧ v < Y) ∧
      (IntKind.u64.wrap ((u : Int) * 4294967296) = (K1 : Int) ∧ IntKind.u64.wrap ((K1 : Int) + (l : Int)) = (K2 : Int) ∧ IntKind.u64.wrap ((Q1 : Int) * (Y : Int)) = (K3 : Int) ∧ IntKind.u64.wrap ((K2 : Int) - (K3 : Int)) = (v : Int)) := by
  have HYP : 0 < Y := by omega
  have hQ1 := Nat.div_add_mod u y1
  have hR0 := Nat.mod_lt u (show 0 < y1 by omega)
  have hfst := half_first (u := u) (l := l) hYd hl (by omega)
  have hmost := half_most hYd hy0 huY hy1
  have e10 : (u : Int) / (y1 : Int) = ((u / y1 : Nat) : Int) := by rw [Int.natCast_ediv]
  obtain ⟨Q0, hQ0⟩ : ∃ q, u / y1 = q := ⟨_, rfl⟩
  obtain ⟨R0, hR0e⟩ : ∃ q, u % y1 = q := ⟨_, rfl⟩
  rw [hQ0] at hQ1 e10 hfst hmost
  rw [hR0e] at hQ1 hR0
  rw [Nat.mul_comm] at hQ1
  have huB : u < B64 := by omega
  have e11 := wrap64u (n := Q0) (by have : H32 + 1 < B64 := by decide
                                    omega)
  have e12 := wrap64u (n := Q0 * y1) (by omega)
  rw [Int.natCast_mul] at e12
  have e13 : IntKind.u64.wrap ((u : Int) - (Q0 : Int) * (y1 : Int)) = (R0 : Int) := by
    rw [← wrap64u (n := R0) (by omega)]
    congr 1
    rw [← hQ1, Int.natCast_add, Int.natCast_mul]
    omega
  have hlt := half_lt (l := l) hYd huY hl
  obtain ⟨h1, h2, h3⟩ := half_rest (u := u) (l := l) HYP
  refine ⟨Q0, R0, (u * H32 + l) / Y, (u * H32 + l) % Y, u * H32 % B64, (u * H32 % B64 + l) % B64, (u * H32 + l) / Y * Y % B64, ⟨e10, e11, e12, e13⟩, ⟨hQ1, by omega, hfst, hmost, hlt⟩,
    ⟨fun q h => half_big hYd huY hl h, fun q r h h' => half_next hYd h h', fun q r h h' h'' => half_stop hYd HYP h h' h''⟩, ⟨rfl, rfl, h2⟩, ?_, ?_, ?_, ?_⟩
  · rw [IntKind.wrap_u64, Int.natCast_emod, Int.natCast_mul]; rfl
  · rw [IntKind.wrap_u64, Int.natCast_emod (_ + _), Int.natCast_add]; rfl
  · rw [IntKind.wrap_u64, Int.natCast_emod, Int.natCast_mul]; rfl
  · obtain ⟨a, ha⟩ : ∃ a, u * H32 = a := ⟨_, rfl⟩
    obtain ⟨b, hb⟩ : ∃ b, (a + l) / Y * Y = b := ⟨_, rfl⟩
    rw [ha] at h1 h2 h3 ⊢
    obtain ⟨v, hv⟩ : ∃ b, (a + l) % Y = b := ⟨_, rfl⟩
    rw [hb, hv] at h1
    rw [hb] at h3
    rw [hv] at h2
    rw [hb, hv, IntKind.wrap_u64]
    unfold B64 at *
    omega
theorem loop_words {Q R y0 l : Nat} (hQ : Q < H32) (hy0 : y0 < H32) (hR : R < H32) (hl : l < H32) : IntKind.u64.wrap ((Q : Int) * (y0 : Int)) = ((Q * y0 : Nat) : Int) ∧ IntKind.u64.wrap (4294967296 * (R : Int)) = ((H32 * R : Nat) : Int) ∧
    IntKind.u64.wrap (((H32 * R : Nat) : Int) + (l : Int)) = ((H32 * R + l : Nat) : Int) := by
  have h1 : Q * y0 ≤ (H32 - 1) * (H32 - 1) := Nat.mul_le_mul (by omega) (by omega)
  have h2 : (H32 - 1) * (H32 - 1) < B64 := by decide
  have h3 : H32 * R ≤ H32 * (H32 - 1) := Nat.mul_le_mul_left _ (by omega)
  have h4 : H32 * (H32 - 1) + H32 = B64 := by decide
  refine ⟨?_, ?_, ?_⟩
  · rw [← Int.natCast_mul]; exact wrap64u (by omega)
  · have := wrap64u (n := H32 * R) (by omega)
    rw [← this]
    congr 1
  · rw [← Int.natCast_add]; exact wrap64u (by omega)
theorem sub_words {Q y1 R : Nat} (hQ : 0 < Q) (hQ2 : Q ≤ H32 + 1) (hy : y1 < H32) (hR : R < H32) : IntKind.u64.wrap ((Q : Int) - 1) = ((Q - 1 : Nat) : Int) ∧ IntKind.u64.wrap ((R : Int) + (y1 : Int)) = ((R + y1 : Nat) : Int) := by
  have h1 : H32 + 1 < B64 := by decide
  have h2 : H32 + H32 < B64 := by decide
  refine ⟨?_, ?_⟩
  · rw [← wrap64u (n := Q - 1) (by omega)]
    congr 1
    omega
  · rw [← Int.natCast_add]; exact wrap64u (by omega)
theorem back_eq {Q R y1 u : Nat} (hQ : 0 < Q) (h : Q * y1 + R = u) : (Q - 1) * y1 + (R + y1) = u := by
  obtain ⟨q, rfl⟩ : ∃ q, Q = q + 1 := ⟨Q - 1, by omega⟩
  rw [Nat.add_mul, Nat.one_mul] at h
  rw [Nat.add_sub_cancel]
  omega
set_option maxHeartbeats 2000000 in
set_option maxRecDepth 100000 in
theorem div64_any (hi lo y : Nat) (hy : hi < y) (hyB : y < B64) (hlo : lo < B64) (h0 : hi ≠ 0) (w : World) :
    Calls Tryz.prog 190 #[.int .u64 (hi : Int), .int .u64 (lo : Int), .int .u64 (y : Int)] w fun e w' => e = .returned (.tuple #[.int .u64 (((hi * B64 + lo) / y : Nat) : Int), .int .u64 (((hi * B64 + lo) % y : Nat) : Int)]) ∧ w' = w := by
  obtain ⟨s, hs, hn, hm, hlz⟩ := lz_any y (by omega) hyB
  have HLZ := Lib.hid hlz
  have h1 : ((y : Int) == 0) = false := beq_false_of_ne (by omega)
  have h2 : decide ((y : Int) ≤ (hi : Int)) = false := decide_eq_false (by omega)
  have h3 : ((hi : Int) == 0) = false := beq_false_of_ne (by omega)
  obtain ⟨hsp, hC⟩ := word_shift (s := s) (by omega) hlo
  have hhi : hi * 2 ^ s + 2 ^ s ≤ y * 2 ^ s := by
    have := Nat.mul_le_mul_right (2 ^ s) (show hi + 1 ≤ y from hy)
    rwa [Nat.add_mul, Nat.one_mul] at this
  have hN : (hi * B64 + lo) * 2 ^ s = (hi * 2 ^ s + lo / 2 ^ (64 - s)) * B64 + lo * 2 ^ s % B64 := by
    exact word_whole hsp
  have e1 := word_shl (y := y) (s := s) hm
  have hhm : hi * 2 ^ s < B64 := Nat.lt_of_le_of_lt (Nat.le_trans (Nat.le_add_right _ _) hhi) hm
  have e2 := word_shl (y := hi) (s := s) hhm
  have e3 := word_shl_low (y := lo) (s := s)
  have hCB : lo / 2 ^ (64 - s) < B64 := Nat.lt_of_le_of_lt (Nat.div_le_self _ _) hlo
  have e4 := word_or (a := hi) (s := s) hhm hC hCB
  have e5 : (lo : Int) / 2 ^ (64 - s) = ((lo / 2 ^ (64 - s) : Nat) : Int) := by rw [Int.natCast_ediv, Int.natCast_pow]; rfl
  have hLB : lo * 2 ^ s % B64 < B64 := Nat.mod_lt _ b64_pos
  obtain ⟨Y, hY⟩ : ∃ Y, y * 2 ^ s = Y := ⟨_, rfl⟩
  obtain ⟨A, hA⟩ : ∃ A, hi * 2 ^ s = A := ⟨_, rfl⟩
  obtain ⟨C, hCe⟩ : ∃ C, lo / 2 ^ (64 - s) = C := ⟨_, rfl⟩
  obtain ⟨L, hL⟩ : ∃ L, lo * 2 ^ s % B64 = L := ⟨_, rfl⟩
  rw [hY] at e1 hn hm hhi
  rw [hA] at e2 e4 hhi hN hhm
  rw [hCe] at e4 e5 hN hC
  rw [hL] at e3 hN hLB
  obtain ⟨u, hu⟩ : ∃ u, A + C = u := ⟨_, rfl⟩
  rw [hu] at e4 hN
  have huY : u < Y := by rw [← hu]; exact Nat.lt_of_lt_of_le (Nat.add_lt_add_left hC _) hhi
  have e6 := word_low Y hm
  have e7 := word_low L hLB
  have hdY := Nat.div_add_mod Y H32
  have hdL := Nat.div_add_mod L H32
  have hy0 := Nat.mod_lt Y h32_pos
  have hl0 := Nat.mod_lt L h32_pos
  have e8 : (Y : Int) / 4294967296 = ((Y / H32 : Nat) : Int) := by rw [Int.natCast_ediv]; rfl
  have e9 : (L : Int) / 4294967296 = ((L / H32 : Nat) : Int) := by rw [Int.natCast_ediv]; rfl
  have hy1 : 2147483648 ≤ Y / H32 := by rw [Nat.le_div_iff_mul_le h32_pos]; unfold H32; omega
  have hy2 : Y / H32 < H32 := by rw [Nat.div_lt_iff_lt_mul h32_pos, h32_sq]; exact hm
  have hl1 : L / H32 < H32 := by rw [Nat.div_lt_iff_lt_mul h32_pos, h32_sq]; exact hLB
  have HFIN := Lib.hid (div_halves (l1 := L / H32) (l0 := L % H32) (pow_pos2 s) (by omega) hY hN (by rw [Nat.mul_comm]; exact hdL.symm))
  obtain ⟨y1, hy1e⟩ : ∃ q, Y / H32 = q := ⟨_, rfl⟩
  obtain ⟨y0, hy0e⟩ : ∃ q, Y % H32 = q := ⟨_, rfl⟩
  obtain ⟨l1, hl1e⟩ : ∃ q, L / H32 = q := ⟨_, rfl⟩
  obtain ⟨l0, hl0e⟩ : ∃ q, L % H32 = q := ⟨_, rfl⟩
  rw [hy1e] at e8 hy1 hy2 hdY
  rw [hy0e] at e6 hy0 hdY
  rw [hl1e] at e9 hl1 hdL HFIN
  rw [hl0e] at e7 hl0 hdL HFIN
  have hYd : Y = y1 * H32 + y0 := by rw [Nat.mul_comm]; exact hdY.symm
  obtain ⟨Q0, R0, Q1, v, K1, K2, K3, ⟨e10, e11, e12, e13⟩, ⟨hq0, hR0, hfst, hmost, hQ1H⟩, ⟨hbig, hnext, hstop⟩, ⟨hd1, hd2, hvY⟩, ⟨e14, e15, e16, e17⟩⟩ := half_pack hYd hm hy0 hy1 hy2 huY hl1
  obtain ⟨S0, T0, S1, r, J1, J2, J3, ⟨f10, f11, f12, f13⟩, ⟨hs0, hT0, hsfst, hsmost, hS1H⟩, ⟨hsbig, hsnext, hsstop⟩, ⟨hsd1, hsd2, hrY⟩, ⟨f14, f15, f16, f17⟩⟩ := half_pack hYd hm hy0 hy1 hy2 hvY hl0
  rw [hd1, hd2, hsd1, hsd2] at HFIN
  have HBIG := Lib.hid hbig
  have HNEXT := Lib.hid hnext
  have HSTOP := Lib.hid hstop
  have HQ0 := Lib.hid hq0
  have HBIG2 := Lib.hid hsbig
  have HNEXT2 := Lib.hid hsnext
  have HSTOP2 := Lib.hid hsstop
  have HS0 := Lib.hid hs0
  have g1 : IntKind.u64.wrap ((Q1 : Int) * 4294967296) = ((Q1 * H32 : Nat) : Int) := by
    have h : Q1 * H32 ≤ (H32 - 1) * H32 := Nat.mul_le_mul_right _ (by omega)
    have h' : (H32 - 1) * H32 < B64 := by decide
    have := wrap64u (n := Q1 * H32) (by omega)
    rw [← this]
    congr 1
  have g2 : IntKind.u64.wrap (((Q1 * H32 : Nat) : Int) + (S1 : Int)) = ((Q1 * H32 + S1 : Nat) : Int) := by
    have h : Q1 * H32 ≤ (H32 - 1) * H32 := Nat.mul_le_mul_right _ (by omega)
    have h' : (H32 - 1) * H32 + H32 = B64 := by decide
    rw [← Int.natCast_add]
    exact wrap64u (by omega)
  have g3 : (r : Int) / 2 ^ s = ((r / 2 ^ s : Nat) : Int) := by rw [Int.natCast_ediv, Int.natCast_pow]; rfl
  obtain ⟨hF1, hF2⟩ := HFIN.out
  rw [hF1] at g2
  rw [hF2] at g3
  obtain ⟨Z1, hZ1⟩ : ∃ q, Q1 * H32 = q := ⟨_, rfl⟩
  rw [hZ1] at g1 g2
  have HQ : Hid ((hi * B64 + lo) / y = (hi * B64 + lo) / y) := rfl
  obtain ⟨QQ, hQQ⟩ : ∃ q, (hi * B64 + lo) / y = q := ⟨_, rfl⟩
  obtain ⟨RR, hRR⟩ : ∃ q, (hi * B64 + lo) % y = q := ⟨_, rfl⟩
  rw [hQQ] at g2
  rw [hRR] at g3
  rw [hQQ, hRR]
  clear hlz hn hsp hhi hN hCB hLB hA hCe hL hu hdY hdL hy1e hy0e hl1e hl0e hQQ hRR HQ hY hYd hbig hnext hstop hq0 hsbig hsnext hsstop hs0 hF1 hF2 HFIN hd1 hd2 hsd1 hsd2 hZ1 huY hvY hrY
  go_enter Tryz.func190, Tryz.ntmps190
  go_upto_block 0 with (first
      | (go_at_call 200; (with_reducible refine (HLZ.out _).mono ?_); rintro e w3 ⟨rfl, hw3⟩; obtain rfl := hw3.symm))
  go_cut [15] from 67 to 85 (fun s15 wx => s15 = .int .u64 (Q1 : Nat) ∧ wx = w)
  case first =>
    go_wp2
    go_loopg [15, 16] Q0 (fun gf s15 s16 wx => ∃ (Q R : Nat), s15 = .int .u64 (Q : Nat) ∧ s16 = .int .u64 (R : Nat) ∧ Q * y1 + R = u ∧ Q1 ≤ Q ∧ Q ≤ H32 + 1 ∧ R < H32 ∧ Q ≤ gf ∧ wx = w)
    case atStart => exact ⟨Q0, _, rfl, rfl, HQ0.out, hfst, hmost, hR0, Nat.le_refl _, rfl⟩
    case round =>
      obtain ⟨Q, R, rfl, rfl, heq, hge, hm2, hR, hg, hw⟩ := hrel
      obtain rfl := hw.symm
      have HEQ := Lib.hid heq
      clear heq
      by_cases hA : H32 ≤ Q
      · have c1 : decide ((4294967296 : Int) ≤ (Q : Int)) = true := decide_eq_true (by unfold H32 at hA; omega)
        have HLT : Hid (Q1 < Q) := HBIG.out Q hA
        have hQ0p : 0 < Q := by have := HLT.out; omega
        obtain ⟨w1, w2⟩ := sub_words hQ0p hm2 hy2 hR
        obtain ⟨P, hP⟩ : ∃ P, Q - 1 = P := ⟨_, rfl⟩
        obtain ⟨N, hN⟩ : ∃ N, R + y1 = N := ⟨_, rfl⟩
        have HEQ2 := Lib.hid (back_eq hQ0p HEQ.out)
        rw [hP] at w1 HEQ2
        rw [hN] at w2 HEQ2
        have HP := Lib.hid hP
        clear hP hN hA
        by_cases hD : H32 ≤ N
        · have d1 : decide ((4294967296 : Int) ≤ (N : Int)) = true := decide_eq_true (by unfold H32 at hD; omega)
          have HE := Lib.hid (HSTOP.out P N HEQ2.out (half_break hy0 hD (by have := HP.out; omega)) (by have := HP.out; have := HLT.out; omega))
          clear hD hm2 hge hR hQ0p
          go_wp2
          go_meet
          exact ⟨by rw [HE.out], rfl⟩
        · have d1 : decide ((4294967296 : Int) ≤ (N : Int)) = false := decide_eq_false (by unfold H32 at hD; omega)
          have HFA : Hid (N < H32 ∧ P ≤ H32 + 1 ∧ Q1 ≤ P ∧ P + 1 ≤ gk) := by
            have h1 := HP.out
            have h2 := HLT.out
            exact ⟨by omega, by omega, by omega, by omega⟩
          obtain ⟨gk', rfl⟩ : ∃ g, gk = g + 1 := ⟨gk - 1, by have := HP.out; omega⟩
          clear hD hm2 hge hR hQ0p hg
          go_wp2
          go_roundg gk'
          case measure => omega
          case rel =>
            obtain ⟨k1, k2, k3, k4⟩ := HFA.out
            exact ⟨P, N, rfl, rfl, HEQ2.out, k3, k2, k1, by omega, rfl⟩
      · have c1 : decide ((4294967296 : Int) ≤ (Q : Int)) = false := decide_eq_false (by unfold H32 at hA; omega)
        obtain ⟨m1, m2, m3⟩ := loop_words (Q := Q) (R := R) (by omega) hy0 hR hl1
        obtain ⟨M, hM⟩ : ∃ M, Q * y0 = M := ⟨_, rfl⟩
        obtain ⟨X1, hX1⟩ : ∃ M, H32 * R = M := ⟨_, rfl⟩
        obtain ⟨X2, hX2⟩ : ∃ M, X1 + l1 = M := ⟨_, rfl⟩
        rw [hM] at m1
        rw [hX1] at m2 m3
        rw [hX2] at m3
        by_cases hB : X2 < M
        · have c2 : decide ((X2 : Int) < (M : Int)) = true := decide_eq_true (by omega)
          have HLT : Hid (Q1 < Q) := HNEXT.out Q R HEQ.out (by rw [hM, hX1, hX2]; exact hB)
          have hQ0p : 0 < Q := by have := HLT.out; omega
          obtain ⟨w1, w2⟩ := sub_words hQ0p hm2 hy2 hR
          obtain ⟨P, hP⟩ : ∃ P, Q - 1 = P := ⟨_, rfl⟩
          obtain ⟨N, hN⟩ : ∃ N, R + y1 = N := ⟨_, rfl⟩
          have HEQ2 := Lib.hid (back_eq hQ0p HEQ.out)
          rw [hP] at w1 HEQ2
          rw [hN] at w2 HEQ2
          have HP := Lib.hid hP
          clear hP hN hA hM hX1 hX2 c2
          by_cases hD : H32 ≤ N
          · have d1 : decide ((4294967296 : Int) ≤ (N : Int)) = true := decide_eq_true (by unfold H32 at hD; omega)
            have HE := Lib.hid (HSTOP.out P N HEQ2.out (half_break hy0 hD (by have := HP.out; omega)) (by have := HP.out; have := HLT.out; omega))
            clear hD hm2 hge hR hQ0p
            go_wp2
            go_meet
            exact ⟨by rw [HE.out], rfl⟩
          · have d1 : decide ((4294967296 : Int) ≤ (N : Int)) = false := decide_eq_false (by unfold H32 at hD; omega)
            have HFA : Hid (N < H32 ∧ P ≤ H32 + 1 ∧ Q1 ≤ P ∧ P + 1 ≤ gk) := by
              have h1 := HP.out
              have h2 := HLT.out
              exact ⟨by omega, by omega, by omega, by omega⟩
            obtain ⟨gk', rfl⟩ : ∃ g, gk = g + 1 := ⟨gk - 1, by have := HP.out; omega⟩
            clear hD hm2 hge hR hQ0p hg
            go_wp2
            go_roundg gk'
            case measure => omega
            case rel =>
              obtain ⟨k1, k2, k3, k4⟩ := HFA.out
              exact ⟨P, N, rfl, rfl, HEQ2.out, k3, k2, k1, by omega, rfl⟩
        · have c2 : decide ((X2 : Int) < (M : Int)) = false := decide_eq_false (by omega)
          have HE := Lib.hid (HSTOP.out Q R HEQ.out (by rw [hM, hX1, hX2]; omega) hge)
          clear hA hM hX1 hX2 hge hm2 hR hg c2
          go_wp2
          go_meet
          exact ⟨by rw [HE.out], rfl⟩
  case rest =>
  obtain ⟨rfl, hwc⟩ := hcut
  obtain rfl := hwc.symm
  go_upto_block 2 with fail
  go_cut [18] from 102 to 120 (fun s18 wx => s18 = .int .u64 (S1 : Nat) ∧ wx = w)
  case first =>
    go_wp2
    go_loopg [18, 16] S0 (fun gf s15 s16 wx => ∃ (Q R : Nat), s15 = .int .u64 (Q : Nat) ∧ s16 = .int .u64 (R : Nat) ∧ Q * y1 + R = v ∧ S1 ≤ Q ∧ Q ≤ H32 + 1 ∧ R < H32 ∧ Q ≤ gf ∧ wx = w)
    case atStart => exact ⟨S0, _, rfl, rfl, HS0.out, hsfst, hsmost, hT0, Nat.le_refl _, rfl⟩
    case round =>
      obtain ⟨Q, R, rfl, rfl, heq, hge, hm2, hR, hg, hw⟩ := hrel
      obtain rfl := hw.symm
      have HEQ := Lib.hid heq
      clear heq
      by_cases hA : H32 ≤ Q
      · have c1 : decide ((4294967296 : Int) ≤ (Q : Int)) = true := decide_eq_true (by unfold H32 at hA; omega)
        have HLT : Hid (S1 < Q) := HBIG2.out Q hA
        have hQ0p : 0 < Q := by have := HLT.out; omega
        obtain ⟨w1, w2⟩ := sub_words hQ0p hm2 hy2 hR
        obtain ⟨P, hP⟩ : ∃ P, Q - 1 = P := ⟨_, rfl⟩
        obtain ⟨N, hN⟩ : ∃ N, R + y1 = N := ⟨_, rfl⟩
        have HEQ2 := Lib.hid (back_eq hQ0p HEQ.out)
        rw [hP] at w1 HEQ2
        rw [hN] at w2 HEQ2
        have HP := Lib.hid hP
        clear hP hN hA
        by_cases hD : H32 ≤ N
        · have d1 : decide ((4294967296 : Int) ≤ (N : Int)) = true := decide_eq_true (by unfold H32 at hD; omega)
          have HE := Lib.hid (HSTOP2.out P N HEQ2.out (half_break hy0 hD (by have := HP.out; omega)) (by have := HP.out; have := HLT.out; omega))
          clear hD hm2 hge hR hQ0p
          go_wp2
          go_meet
          exact ⟨by rw [HE.out], rfl⟩
        · have d1 : decide ((4294967296 : Int) ≤ (N : Int)) = false := decide_eq_false (by unfold H32 at hD; omega)
          have HFA : Hid (N < H32 ∧ P ≤ H32 + 1 ∧ S1 ≤ P ∧ P + 1 ≤ gk) := by
            have h1 := HP.out
            have h2 := HLT.out
            exact ⟨by omega, by omega, by omega, by omega⟩
          obtain ⟨gk', rfl⟩ : ∃ g, gk = g + 1 := ⟨gk - 1, by have := HP.out; omega⟩
          clear hD hm2 hge hR hQ0p hg
          go_wp2
          go_roundg gk'
          case measure => omega
          case rel =>
            obtain ⟨k1, k2, k3, k4⟩ := HFA.out
            exact ⟨P, N, rfl, rfl, HEQ2.out, k3, k2, k1, by omega, rfl⟩
      · have c1 : decide ((4294967296 : Int) ≤ (Q : Int)) = false := decide_eq_false (by unfold H32 at hA; omega)
        obtain ⟨m1, m2, m3⟩ := loop_words (Q := Q) (R := R) (by omega) hy0 hR hl0
        obtain ⟨M, hM⟩ : ∃ M, Q * y0 = M := ⟨_, rfl⟩
        obtain ⟨X1, hX1⟩ : ∃ M, H32 * R = M := ⟨_, rfl⟩
        obtain ⟨X2, hX2⟩ : ∃ M, X1 + l0 = M := ⟨_, rfl⟩
        rw [hM] at m1
        rw [hX1] at m2 m3
        rw [hX2] at m3
        by_cases hB : X2 < M
        · have c2 : decide ((X2 : Int) < (M : Int)) = true := decide_eq_true (by omega)
          have HLT : Hid (S1 < Q) := HNEXT2.out Q R HEQ.out (by rw [hM, hX1, hX2]; exact hB)
          have hQ0p : 0 < Q := by have := HLT.out; omega
          obtain ⟨w1, w2⟩ := sub_words hQ0p hm2 hy2 hR
          obtain ⟨P, hP⟩ : ∃ P, Q - 1 = P := ⟨_, rfl⟩
          obtain ⟨N, hN⟩ : ∃ N, R + y1 = N := ⟨_, rfl⟩
          have HEQ2 := Lib.hid (back_eq hQ0p HEQ.out)
          rw [hP] at w1 HEQ2
          rw [hN] at w2 HEQ2
          have HP := Lib.hid hP
          clear hP hN hA hM hX1 hX2 c2
          by_cases hD : H32 ≤ N
          · have d1 : decide ((4294967296 : Int) ≤ (N : Int)) = true := decide_eq_true (by unfold H32 at hD; omega)
            have HE := Lib.hid (HSTOP2.out P N HEQ2.out (half_break hy0 hD (by have := HP.out; omega)) (by have := HP.out; have := HLT.out; omega))
            clear hD hm2 hge hR hQ0p
            go_wp2
            go_meet
            exact ⟨by rw [HE.out], rfl⟩
          · have d1 : decide ((4294967296 : Int) ≤ (N : Int)) = false := decide_eq_false (by unfold H32 at hD; omega)
            have HFA : Hid (N < H32 ∧ P ≤ H32 + 1 ∧ S1 ≤ P ∧ P + 1 ≤ gk) := by
              have h1 := HP.out
              have h2 := HLT.out
              exact ⟨by omega, by omega, by omega, by omega⟩
            obtain ⟨gk', rfl⟩ : ∃ g, gk = g + 1 := ⟨gk - 1, by have := HP.out; omega⟩
            clear hD hm2 hge hR hQ0p hg
            go_wp2
            go_roundg gk'
            case measure => omega
            case rel =>
              obtain ⟨k1, k2, k3, k4⟩ := HFA.out
              exact ⟨P, N, rfl, rfl, HEQ2.out, k3, k2, k1, by omega, rfl⟩
        · have c2 : decide ((X2 : Int) < (M : Int)) = false := decide_eq_false (by omega)
          have HE := Lib.hid (HSTOP2.out Q R HEQ.out (by rw [hM, hX1, hX2]; omega) hge)
          clear hA hM hX1 hX2 hge hm2 hR hg c2
          go_wp2
          go_meet
          exact ⟨by rw [HE.out], rfl⟩
  case rest =>
  obtain ⟨rfl, hwc⟩ := hcut
  obtain rfl := hwc.symm
  go_wp2
  trace_state
  go_ret2
  exact ⟨rfl, rfl⟩
theorem div64_call (hi lo y : Nat) (hy : hi < y) (hyB : y < B64) (hlo : lo < B64) (w : World) :
    Calls Tryz.prog 190 #[.int .u64 (hi : Int), .int .u64 (lo : Int), .int .u64 (y : Int)] w fun e w' => e = .returned (.tuple #[.int .u64 (((hi * B64 + lo) / y : Nat) : Int), .int .u64 (((hi * B64 + lo) % y : Nat) : Int)]) ∧ ∃ n, w' = w.drewN n := by
  by_cases h0 : hi = 0
  · subst h0
    rw [Nat.zero_mul, Nat.zero_add]
    exact div64_small lo y (by omega) hlo w
  · exact (div64_any hi lo y hy hyB hlo h0 w).mono fun e w' ⟨h1, h2⟩ => ⟨h1, 0, h2⟩
theorem quot_small {hi lo y : Nat} (hy : hi < y) (_ : y < B64) (hlo : lo < B64) : (hi * B64 + lo) / y < B64 := by
  rw [Nat.div_lt_iff_lt_mul (by omega)]
  have h1 : (hi + 1) * B64 ≤ y * B64 := Nat.mul_le_mul_right _ hy
  rw [Nat.add_mul] at h1
  rw [Nat.mul_comm B64 y]
  omega
/-- The guess, corrected. -/
def gq (v1 v0 u0 : Nat) : Nat → Nat → Nat → Nat
  | 0, q, _ => q
  | f + 1, q, r => if q * v0 ≤ r * B64 + u0 then q else if (r + v1) / B64 ≠ 0 then q - 1 else gq v1 v0 u0 f (q - 1) ((r + v1) % B64)
theorem gq_ok {v1 v0 u0 f q r : Nat} (h : q * v0 ≤ r * B64 + u0) : gq v1 v0 u0 f q r = q := by
  cases f with
  | zero => rfl
  | succ f => rw [gq, if_pos h]
theorem gq_spec {v1 v0 u0 T d : Nat} (hnx : ∀ q r, q * v1 + r = T → r * B64 + u0 < q * v0 → d < q) : ∀ (f q r : Nat), q * v1 + r = T → d ≤ q → q < B64 → q ≤ f → d ≤ gq v1 v0 u0 f q r ∧ gq v1 v0 u0 f q r < B64 := by
  intro f
  induction f with
  | zero => intro q r _ h2 h3 _; exact ⟨h2, h3⟩
  | succ f ih =>
    intro q r h1 h2 h3 h4
    rw [gq]
    split
    · exact ⟨h2, h3⟩
    · rename_i hlt
      have h5 := hnx q r h1 (by omega)
      split
      · exact ⟨by omega, by omega⟩
      · rename_i hc
        obtain ⟨p, rfl⟩ : ∃ p, q = p + 1 := ⟨q - 1, by omega⟩
        rw [Nat.add_mul] at h1
        have hdm := Nat.div_add_mod (r + v1) B64
        have hc0 : (r + v1) / B64 = 0 := by omega
        rw [hc0] at hdm
        exact ih _ _ (by rw [Nat.add_sub_cancel]; omega) (by omega) (by omega) (by omega)
def gqL (u2 u1 u0 v1 v0 : Nat) : Nat := if v1 ≤ u2 then 18446744073709551615 else gq v1 v0 u0 ((u2 * B64 + u1) / v1) ((u2 * B64 + u1) / v1) ((u2 * B64 + u1) % v1)
theorem gqL_spec {m : Nat} {U V : List Nat} (hU : AllB B64 U) (hV : AllB B64 V) (hUl : U.length = m + 3) (hVl : V.length = m + 2) (htop : 0 < limbL V (m + 1)) {q : Nat} (hq : gqL (limbL U (m + 2)) (limbL U (m + 1)) (limbL U m) (limbL V (m + 1)) (limbL V m) = q) :
    q < B64 ∧ (valB B64 U < valB B64 V * B64 → valB B64 U / valB B64 V ≤ q) := by
  have hP := val_three (n := m) hU hUl
  have hVV := val_two (B := B64) (n := m) hVl
  have hVp : 0 < valB B64 V := by
    have h1 : 0 < (limbL V (m + 1) * B64 + limbL V m) * B64 ^ m := Nat.mul_pos (Nat.add_pos_left (Nat.mul_pos htop b64_pos) _) (Nat.pow_pos b64_pos)
    omega
  subst hq
  unfold gqL
  split
  · refine ⟨by decide, fun h => ?_⟩
    have : valB B64 U / valB B64 V < B64 := by rw [Nat.div_lt_iff_lt_mul hVp, Nat.mul_comm]; exact h
    unfold B64 at this ⊢
    omega
  · rename_i hge
    have hv1 := limb_lt b64_pos hV (m + 1)
    have h := gq_spec (d := valB B64 U / valB B64 V) (fun q r h h' => guess_next hP hVV h h') ((limbL U (m + 2) * B64 + limbL U (m + 1)) / limbL V (m + 1)) _ _ (by rw [Nat.mul_comm]; exact Nat.div_add_mod (limbL U (m + 2) * B64 + limbL U (m + 1)) (limbL V (m + 1)))
      (guess_first hP (limb_lt b64_pos hU m) hVV htop) (quot_small (by omega) hv1 (limb_lt b64_pos hU (m + 1))) (Nat.le_refl _)
    exact ⟨h.2, fun _ => h.1⟩
set_option maxHeartbeats 2000000 in
set_option maxRecDepth 100000 in
theorem guess_any (pu pv : Option Addr) (cu cv m : Nat) (U V : List Nat) (w : World) (hU : R64 w (.slice pu (m + 2 + 1) cu) U) (hV : R64 w (.slice pv (m + 2) cv) V) (hUl : U.length = m + 3) (hVl : V.length = m + 2) (hn9 : m < 1000000000) (htop : 0 < limbL V (m + 1)) :
    Calls Tryz.prog 202 #[.slice pu (m + 2 + 1) cu, .slice pv (m + 2) cv] w fun e w' => e = .returned (.int .u64 ((gqL (limbL U (m + 2)) (limbL U (m + 1)) (limbL U m) (limbL V (m + 1)) (limbL V m) : Nat) : Int)) ∧ ∃ k, w' = w.drewN k := by
  have hP := val_three (n := m) hU.all hUl
  have hVV := val_two (B := B64) (n := m) hVl
  have hVp : 0 < valB B64 V := by
    have h1 : 0 < (limbL V (m + 1) * B64 + limbL V m) * B64 ^ m := Nat.mul_pos (Nat.add_pos_left (Nat.mul_pos htop b64_pos) _) (Nat.pow_pos b64_pos)
    omega
  obtain ⟨bu, ou, cu', heu, _, qu2, hu2⟩ := hU.at (limb_some (l := U) (j := m + 2) (by omega))
  simp only [Value.slice.injEq] at heu
  obtain ⟨rfl, hx1, rfl⟩ := heu
  obtain ⟨bu', ou', cu'', heu', _, qu1, hu1⟩ := hU.at (limb_some (l := U) (j := m + 1) (by omega))
  simp only [Value.slice.injEq, Option.some.injEq, Addr.mk.injEq, and_true] at heu'
  obtain ⟨⟨rfl, rfl⟩, hx2, rfl⟩ := heu'
  obtain ⟨bu', ou', cu'', heu', _, qu0, hu0⟩ := hU.at (limb_some (l := U) (j := m) (by omega))
  simp only [Value.slice.injEq, Option.some.injEq, Addr.mk.injEq, and_true] at heu'
  obtain ⟨⟨rfl, rfl⟩, hx3, rfl⟩ := heu'
  obtain ⟨bv, ov, cv', hev, _, qv1, hv1⟩ := hV.at (limb_some (l := V) (j := m + 1) (by omega))
  simp only [Value.slice.injEq] at hev
  obtain ⟨rfl, hx4, rfl⟩ := hev
  obtain ⟨bv', ov', cv'', hev', _, qv0, hv0⟩ := hV.at (limb_some (l := V) (j := m) (by omega))
  simp only [Value.slice.injEq, Option.some.injEq, Addr.mk.injEq, and_true] at hev'
  obtain ⟨⟨rfl, rfl⟩, hx5, rfl⟩ := hev'
  clear hx1 hx2 hx3 hx4 hx5 hU hV hUl hVl
  obtain ⟨u2, h⟩ : ∃ x, limbL U (m + 2) = x := ⟨_, rfl⟩
  rw [h] at qu2 hu2 hP ⊢
  clear h
  obtain ⟨u1, h⟩ : ∃ x, limbL U (m + 1) = x := ⟨_, rfl⟩
  rw [h] at qu1 hu1 hP ⊢
  clear h
  obtain ⟨u0, h⟩ : ∃ x, limbL U m = x := ⟨_, rfl⟩
  rw [h] at qu0 hu0 hP ⊢
  clear h
  obtain ⟨v1, h⟩ : ∃ x, limbL V (m + 1) = x := ⟨_, rfl⟩
  rw [h] at qv1 hv1 hVV htop ⊢
  clear h
  obtain ⟨v0, h⟩ : ∃ x, limbL V m = x := ⟨_, rfl⟩
  rw [h] at qv0 hv0 hVV ⊢
  clear h
  obtain ⟨n, hn⟩ : ∃ n, m + 2 = n := ⟨_, rfl⟩
  obtain ⟨k1, hk1⟩ : ∃ n, m + 1 = n := ⟨_, rfl⟩
  have en1 : (n : Int) - 1 = (k1 : Int) := by omega
  have en2 : (n : Int) - 2 = (m : Int) := by omega
  have b0 : (n : Int) < (n : Int) + 1 := by omega
  have b1 : (k1 : Int) < (n : Int) := by omega
  have b2 : (m : Int) < (n : Int) := by omega
  have b3 : (k1 : Int) < (n : Int) + 1 := by omega
  have b4 : (m : Int) < (n : Int) + 1 := by omega
  rw [hn] at qu2 ⊢
  rw [hk1] at qu1 qv1
  have hn10 : n < 2000000000 := by omega
  have hk10 : k1 < 2000000000 := by omega
  have wk1 : IntKind.i64.wrap (k1 : Int) = (k1 : Int) := by simp [IntKind.wrap, IntKind.bits, IntKind.signed]; omega
  have wk2 : IntKind.i64.wrap (m : Int) = (m : Int) := by simp [IntKind.wrap, IntKind.bits, IntKind.signed]; omega
  obtain ⟨PP, hPP⟩ : ∃ x, valB B64 U = x := ⟨_, rfl⟩
  obtain ⟨VV, hVVe⟩ : ∃ x, valB B64 V = x := ⟨_, rfl⟩
  rw [hPP] at hP
  rw [hVVe] at hVV hVp
  obtain ⟨RES, hRES⟩ : ∃ x, gqL u2 u1 u0 v1 v0 = x := ⟨_, rfl⟩
  have HRES := Lib.hid hRES
  rw [hRES]
  clear hRES
  clear hPP hVVe hn hk1
  have HP := Lib.hid hP
  have HVV := Lib.hid hVV
  clear hP hVV
  by_cases hge : v1 ≤ u2
  · have c1 : decide ((v1 : Int) ≤ (u2 : Int)) = true := decide_eq_true (by omega)
    obtain rfl : RES = 18446744073709551615 := by rw [← HRES.out, gqL, if_pos hge]
    go_enter Tryz.func202, Tryz.ntmps202
    go_wp2
    go_quiet (fail)
    go_wp2
    go_ret
    exact ⟨rfl, _, rfl⟩
  · have c1 : decide ((v1 : Int) ≤ (u2 : Int)) = false := decide_eq_false (by omega)
    have HDV := Lib.hid (fun wx => div64_call u2 u1 v1 (by omega) hv1 hu1 wx)
    have hq0B := quot_small (hi := u2) (lo := u1) (y := v1) (by omega) hv1 hu1
    have hq0 := Nat.div_add_mod (u2 * B64 + u1) v1
    have hr0 := Nat.mod_lt (u2 * B64 + u1) htop
    have hfst := guess_first HP.out hu0 HVV.out htop
    have hres := HRES.out
    rw [gqL, if_neg hge] at hres
    obtain ⟨q0, hq0e⟩ : ∃ x, (u2 * B64 + u1) / v1 = x := ⟨_, rfl⟩
    obtain ⟨r0, hr0e⟩ : ∃ x, (u2 * B64 + u1) % v1 = x := ⟨_, rfl⟩
    rw [hq0e] at HDV hq0B hq0 hfst
    rw [hr0e] at HDV hq0 hr0
    rw [hq0e, hr0e] at hres
    have HGQ := Lib.hid hres
    clear hres
    rw [Nat.mul_comm] at hq0
    have HQ0 := Lib.hid hq0
    have HNX : Hid (∀ q r, q * v1 + r = u2 * B64 + u1 → r * B64 + u0 < q * v0 → PP / VV < q) := fun q r h h' => guess_next HP.out HVV.out h h'
    have hgu : ¬ v1 ≤ u2 := hge
    clear hq0 hq0e hr0e
    go_enter Tryz.func202, Tryz.ntmps202
    go_wp2
    go_quiet (fail)
    go_wp2
    obtain ⟨W, hW⟩ : ∃ W, w.drewN nq = W := ⟨_, rfl⟩
    have HW : Hid (∀ k, ∃ k', W.drewN k = w.drewN k') := fun k => ⟨nq + k, by rw [← hW, World.drewN_drewN]⟩
    have z1 : W.cell? ⟨bu, ou + n, none⟩ = some (.int .u64 (u2 : Int)) := by rw [← hW]; exact qu2
    have z2 : W.cell? ⟨bu, ou + k1, none⟩ = some (.int .u64 (u1 : Int)) := by rw [← hW]; exact qu1
    have z3 : W.cell? ⟨bu, ou + m, none⟩ = some (.int .u64 (u0 : Int)) := by rw [← hW]; exact qu0
    have z4 : W.cell? ⟨bv, ov + k1, none⟩ = some (.int .u64 (v1 : Int)) := by rw [← hW]; exact qv1
    have z5 : W.cell? ⟨bv, ov + m, none⟩ = some (.int .u64 (v0 : Int)) := by rw [← hW]; exact qv0
    rw [hW]
    clear hW
    go_quiet ((go_at_call 190; exact Calls.quiet_of (HDV.out _)))
    go_wp2
    go_loopg [6, 7] q0 (fun gf s6 s7 wx => ∃ (q r : Nat), s6 = .int .u64 (q : Nat) ∧ s7 = .int .u64 (r : Nat) ∧ q * v1 + r = u2 * B64 + u1 ∧ PP / VV ≤ q ∧ q < B64 ∧ r < B64 ∧ q ≤ gf ∧ gq v1 v0 u0 gf q r = RES ∧ ∃ k, wx = W.drewN k)
    case atStart => exact ⟨q0, r0, rfl, rfl, HQ0.out, hfst, hq0B, by omega, Nat.le_refl _, HGQ.out, _, rfl⟩
    case round =>
      obtain ⟨q, r, rfl, rfl, heq, hge2, hqB, hrB, hg, hgq, k, rfl⟩ := hrel
      have HEQ := Lib.hid heq
      obtain ⟨hi, lo, hml, hhi, hlo, hmul⟩ := mul64_any hqB hv0
      have HMU := Lib.hid hmul
      have HML := Lib.hid hml
      clear heq hmul hml
      by_cases hok : q * v0 ≤ r * B64 + u0
      · have hdis : hi < r ∨ (hi = r ∧ lo ≤ u0) := by
          have h1 := HML.out
          by_cases h : hi < r
          · exact .inl h
          · have h2 : r * B64 ≤ hi * B64 := Nat.mul_le_mul_right _ (by omega)
            by_cases h3 : hi = r
            · subst h3; exact .inr ⟨rfl, by omega⟩
            · have h4 : (r + 1) * B64 ≤ hi * B64 := Nat.mul_le_mul_right _ (by omega)
              rw [Nat.add_mul] at h4
              omega
        obtain rfl : RES = q := by rw [← hgq, gq_ok hok]
        clear hok hgq
        rcases hdis with hlt | ⟨rfl, hle⟩
        · have d1 : decide ((hi : Int) < (r : Int)) = true := decide_eq_true (by omega)
          go_wp2_with (first
            | (go_at_call 178; (with_reducible refine (HMU.out _).mono ?_); rintro e w3 ⟨rfl, hw3⟩; obtain rfl := hw3.symm))
          go_ret
          exact ⟨rfl, HW.out _⟩
        · have d1 : decide ((hi : Int) < (hi : Int)) = false := decide_eq_false (by omega)
          have d2 : ((hi : Int) == (hi : Int)) = true := by simp
          have d3 : decide ((lo : Int) ≤ (u0 : Int)) = true := decide_eq_true (by omega)
          go_wp2_with (first
            | (go_at_call 178; (with_reducible refine (HMU.out _).mono ?_); rintro e w3 ⟨rfl, hw3⟩; obtain rfl := hw3.symm))
          go_ret
          exact ⟨rfl, HW.out _⟩
      · have hok2 := hok
        have hnx := HNX.out q r HEQ.out (by omega)
        have hq1 : 0 < q := Nat.lt_of_le_of_lt (Nat.zero_le _) hnx
        obtain ⟨gk', rfl⟩ : ∃ g, gk = g + 1 := ⟨gk - 1, by omega⟩
        have hq1 : 0 < q := Nat.lt_of_le_of_lt (Nat.zero_le _) hnx
        have hnd : ¬ hi < r := by
          intro h
          have h1 := HML.out
          have h4 : (hi + 1) * B64 ≤ r * B64 := Nat.mul_le_mul_right _ (by omega)
          rw [Nat.add_mul] at h4
          omega
        have hne : hi = r → ¬ lo ≤ u0 := by
          rintro rfl h
          have h1 := HML.out
          omega
        obtain ⟨q', hq'⟩ : ∃ q', q = q' + 1 := ⟨q - 1, by omega⟩
        have w1 : IntKind.u64.wrap ((q : Int) - 1) = (q' : Int) := by
          rw [← wrap64u (n := q') (by omega)]
          congr 1
          omega
        have HEQ2 : Hid (q' * v1 + (r + v1) = u2 * B64 + u1) := by
          have h := HEQ.out
          rw [hq', Nat.add_mul, Nat.one_mul] at h
          unfold Hid
          omega
        have HQ' := Lib.hid hq'
        rw [gq, if_neg hok2, show q - 1 = q' by omega] at hgq
        have ha := fun wx => run_add0 r v1 wx
        have hdm := Nat.div_add_mod (r + v1) B64
        have hrl := Nat.mod_lt (r + v1) b64_pos
        obtain ⟨R2, hR2⟩ : ∃ x, (r + v1) % B64 = x := ⟨_, rfl⟩
        obtain ⟨C2, hC2⟩ : ∃ x, (r + v1) / B64 = x := ⟨_, rfl⟩
        rw [hR2, hC2] at ha hdm hgq
        rw [hR2] at hrl
        have HG := Lib.hid hgq
        clear hgq hok2
        have HDM := Lib.hid hdm
        have d1 : decide ((hi : Int) < (r : Int)) = false := decide_eq_false (by omega)
        clear hok hq' hdm hR2 hC2
        by_cases hc0 : C2 = 0
        · subst hc0
          have HG0 : Hid (gq v1 v0 u0 gk' q' R2 = RES) := by have h := HG.out; rw [if_neg (by omega)] at h; exact h
          have HRR : Hid (q' * v1 + R2 = u2 * B64 + u1) := by
            have h1 := HEQ2.out
            have h2 := HDM.out
            unfold Hid
            omega
          have HFA : Hid (PP / VV ≤ q' ∧ q' < B64 ∧ q' ≤ gk') := by
            have h := HQ'.out
            exact ⟨by omega, by omega, by omega⟩
          clear hnx hge2 hqB hg
          by_cases he : hi = r
          · subst he
            have hlo2 : ¬ lo ≤ u0 := hne rfl
            clear hne
            have d2 : ((hi : Int) == (hi : Int)) = true := by simp
            have d3 : decide ((lo : Int) ≤ (u0 : Int)) = false := decide_eq_false (by omega)
            go_wp2_with (first
              | (go_at_call 178; (with_reducible refine (HMU.out _).mono ?_); rintro e w3 ⟨rfl, hw3⟩; obtain rfl := hw3.symm))
            go_roundg gk'
            case measure => omega
            case rel => exact ⟨q', R2, rfl, rfl, HRR.out, HFA.out.1, HFA.out.2.1, hrl, HFA.out.2.2, HG0.out, _, rfl⟩
          · have d2 : ((hi : Int) == (r : Int)) = false := beq_false_of_ne (by omega)
            clear hne
            go_wp2_with (first
              | (go_at_call 178; (with_reducible refine (HMU.out _).mono ?_); rintro e w3 ⟨rfl, hw3⟩; obtain rfl := hw3.symm))
            go_roundg gk'
            case measure => omega
            case rel => exact ⟨q', R2, rfl, rfl, HRR.out, HFA.out.1, HFA.out.2.1, hrl, HFA.out.2.2, HG0.out, _, rfl⟩
        · have hcn : ((C2 : Int) != 0) = true := by simpa using hc0
          obtain rfl : q' = RES := by have h := HG.out; rw [if_pos hc0] at h; exact h
          have HFA : Hid (PP / VV ≤ q' ∧ q' < B64) := by
            have h := HQ'.out
            exact ⟨by omega, by omega⟩
          clear hnx hge2 hqB hg
          by_cases he : hi = r
          · subst he
            have hlo2 : ¬ lo ≤ u0 := hne rfl
            clear hne
            have d2 : ((hi : Int) == (hi : Int)) = true := by simp
            have d3 : decide ((lo : Int) ≤ (u0 : Int)) = false := decide_eq_false (by omega)
            go_wp2_with (first
              | (go_at_call 178; (with_reducible refine (HMU.out _).mono ?_); rintro e w3 ⟨rfl, hw3⟩; obtain rfl := hw3.symm))
            go_ret
            exact ⟨rfl, HW.out _⟩
          · have d2 : ((hi : Int) == (r : Int)) = false := beq_false_of_ne (by omega)
            clear hne
            go_wp2_with (first
              | (go_at_call 178; (with_reducible refine (HMU.out _).mono ?_); rintro e w3 ⟨rfl, hw3⟩; obtain rfl := hw3.symm))
            go_ret
            exact ⟨rfl, HW.out _⟩
theorem shl_or {x y by' : Nat} (hb : by' < 64) (hy : y < B64) : bits .or .u64 (((x * 2 ^ by' % B64 : Nat)) : Int) (((y / 2 ^ (64 - by') : Nat)) : Int) = ((x * 2 ^ by' % B64 + y / 2 ^ (64 - by') : Nat) : Int) := by
  have e : x * 2 ^ by' % B64 = x % 2 ^ (64 - by') * 2 ^ by' := by rw [← b64_split (s := by') (by omega)]; exact Nat.mul_mod_mul_right _ _ _
  rw [e]
  refine word_or ?_ (word_shift (by omega) hy).2 (Nat.lt_of_le_of_lt (Nat.div_le_self _ _) hy)
  rw [← e]
  exact Nat.mod_lt _ b64_pos
theorem shr_two {y by' : Nat} (hb : by' < 64) : (y : Int) / 2 / 2 ^ (63 - by') = ((y / 2 ^ (64 - by') : Nat) : Int) := by
  have e : y / 2 ^ (64 - by') = y / 2 / 2 ^ (63 - by') := by
    rw [Nat.div_div_eq_div_mul, show 64 - by' = (63 - by') + 1 by omega, Nat.pow_succ, Nat.mul_comm]
  rw [e, Int.natCast_ediv, Int.natCast_ediv, Int.natCast_pow]
  rfl
set_option maxHeartbeats 2000000 in
set_option maxRecDepth 100000 in
theorem shl_any (p : Option Addr) (c k : Nat) (l : List Nat) (w : World) (h : R64 w (.slice p l.length c) l) (hl : l.length < 1000000000) (hk : k < 64000000000) :
    Calls Tryz.prog 201 #[.slice p l.length c, .int .i64 (k : Int)] w fun e w' => ∃ q cq, e = .returned (.slice q (limB B64 (valB B64 l * 2 ^ k)).length cq) ∧
      O64 w' w.heap.size (.slice q (limB B64 (valB B64 l * 2 ^ k)).length cq) (limB B64 (valB B64 l * 2 ^ k)) ∧ Bel w w' := by
  have HT := Lib.hid (fun X hX => trim_any p c l X (h.bel hX) (by omega))
  have hval : valB B64 (trimL l) = valB B64 l := val_trim B64 l
  have hrow : R64 w (.slice p (trimL l).length c) (trimL l) := by
    have h2 := h.take (trim_len l)
    rwa [← trim_prefix] at h2
  have hnl : (trimL l).length < 1000000000 := Nat.lt_of_le_of_lt (trim_len l) hl
  obtain ⟨a, ha⟩ : ∃ a, trimL l = a := ⟨_, rfl⟩
  obtain ⟨m, hm⟩ : ∃ m, l.length = m := ⟨_, rfl⟩
  rw [ha] at hval hrow hnl HT
  rw [hm] at HT ⊢
  rw [← hval]
  have htt : trimL a = a := by rw [← ha]; exact trim_trim l
  obtain ⟨n, hn⟩ : ∃ n, a.length = n := ⟨_, rfl⟩
  rw [hn] at hrow hnl HT
  have HR := Lib.hid hrow
  have HA := Lib.hid hrow.all
  have HN := Lib.hid hn
  clear h hval ha hm hrow hl
  by_cases h0 : n = 0
  · subst h0
    have ha : a = [] := List.length_eq_zero_iff.1 hn
    subst ha
    have e0 : limB B64 (valB B64 [] * 2 ^ k) = [] := by simp [valB, lim_zero]
    rw [e0]
    clear hn
    go_enter Tryz.func201, Tryz.ntmps201
    go_wp2_with (first
      | (go_at_call 157; (with_reducible refine (HT.out _ (Bel.refl _)).mono ?_); rintro e w4 ⟨rfl, hw4⟩; obtain rfl := hw4.symm))
    go_ret
    exact ⟨none, 0, rfl, LOwn.nil _ _ _ _ _, Bel.refl _⟩
  · have hz : ((n : Int) == 0) = false := beq_false_of_ne (by omega)
    obtain ⟨f, hf⟩ : ∃ f, k / 64 = f := ⟨_, rfl⟩
    obtain ⟨b, hb⟩ : ∃ b, k % 64 = b := ⟨_, rfl⟩
    have hb64 : b < 64 := by omega
    have hf9 : f < 1000000000 := by omega
    have ek : k = 64 * f + b := by omega
    have e1 : (k : Int) / 64 = (f : Int) := by omega
    have e2 : (k : Int) % 64 = (b : Int) := by omega
    have hmk := fun wx => run_made (f + n + 1) (by omega) wx
    rw [show ((f + n + 1 : Nat) : Int) = (f : Int) + (n : Int) + 1 by omega] at hmk
    obtain ⟨Z, hZ⟩ : ∃ Z, madeCells #[.int .u64 0] ((f + n + 1) * 1) = Z := ⟨_, rfl⟩
    have HO0 := Lib.hid (made_own w (f + n + 1) (by unfold maxLen; omega))
    rw [hZ] at hmk HO0
    obtain ⟨G, hG⟩ : ∃ G, w.heap.size = G := ⟨_, rfl⟩
    rw [hG] at HO0 ⊢
    have HG := Lib.hid hG
    have HK := Lib.hid ek
    have hfb : (f : Int) + (n : Int) + 1 < 9000000000 := by omega
    clear hZ hf hb hn ek
    go_enter Tryz.func201, Tryz.ntmps201
    go_wp2_with (first
      | (go_at_call 157; (with_reducible refine (HT.out _ (Bel.refl _)).mono ?_); rintro e w4 ⟨rfl, hw4⟩; obtain rfl := hw4.symm))
    rw [e2]
    go_loopg [27] (n + 1) (fun gf s27 wx => ∃ (i : Nat) (o : List Nat), s27 = .int .i64 i ∧ i ≤ n + 1 ∧ n + 1 ≤ i + gf ∧ o.length = f + n + 1 ∧ O64 wx G (.slice (some ⟨G, 0, none⟩) (f + n + 1) (f + n + 1)) o ∧
      (∀ j, f + i ≤ j → limbL o j = 0) ∧ valB B64 o + B64 ^ (f + i) * ((if i = 0 then 0 else limbL a (i - 1)) / 2 ^ (64 - b)) = B64 ^ f * 2 ^ b * valB B64 (a.take i) ∧ Bel w wx)
    case atStart => exact ⟨0, List.replicate (f + n + 1) 0, rfl, by omega, by omega, by simp, HO0.out, fun j _ => limb_zeros _ _, by rw [val_zeros]; simp [valB], (Bel.refl w).alloc _⟩
    case round =>
      obtain ⟨i, o, rfl, hi, hig, ho, hown, hz2, hval, hbb⟩ := hrel
      have HOWN := Lib.hid hown
      have HVAL := Lib.hid hval
      have HB := Lib.hid hbb
      have HO := Lib.hid ho
      have HZ := Lib.hid hz2
      clear hown hval hbb ho hz2
      by_cases hlt : i < n + 1
      · obtain ⟨gk', rfl⟩ : ∃ g, gk = g + 1 := ⟨gk - 1, by omega⟩
        have hrd : ∀ X, Bel w X → R64 X (.slice p a.length c) a := fun X hX => by rw [HN.out]; exact HR.out.bel hX
        have HLX : Hid (∀ X, Bel w X → _) := fun X hX => limb_any p c i a X (hrd X hX) (by omega)
        have HLY : Hid (∀ X, Bel w X → Calls Tryz.prog 206 #[.slice p n c, .int .i64 ((i : Int) - 1)] X fun e w' => e = .returned (.int .u64 ((if i = 0 then 0 else limbL a (i - 1) : Nat) : Int)) ∧ w' = X) := fun X hX => by
          by_cases hi0 : i = 0
          · rw [if_pos hi0]; exact limb_neg _ _ (by omega) X
          · rw [if_neg hi0, show (i : Int) - 1 = ((i - 1 : Nat) : Int) by omega]
            have h2 := limb_any p c (i - 1) a X (hrd X hX) (by omega)
            rw [HN.out] at h2
            exact h2
        rw [HN.out] at HLX
        have hYB : (if i = 0 then 0 else limbL a (i - 1)) < B64 := by
          split
          · exact b64_pos
          · exact limb_lt b64_pos HA.out _
        have HST := Lib.hid (shl_step (W := 2 ^ b) (U := 2 ^ (64 - b)) (x := limbL a i) (by rw [Nat.mul_comm]; exact b64_split (by omega)) (pow_pos2 b) (by rw [HO.out]; omega) (HZ.out (f + i) (by omega)) rfl HVAL.out)
        obtain ⟨Y, hY⟩ : ∃ Y, (if i = 0 then 0 else limbL a (i - 1)) = Y := ⟨_, rfl⟩
        obtain ⟨X, hX⟩ : ∃ X, limbL a i = X := ⟨_, rfl⟩
        rw [hY] at HLY hYB HST
        rw [hX] at HLX HST
        have e3 := word_shl_low (y := X) (s := b)
        have e4 := shr_two (y := Y) hb64
        have e5 := shl_or (x := X) hb64 hYB
        have hVB : X * 2 ^ b % B64 + Y / 2 ^ (64 - b) < B64 := by
          have h1 : X * 2 ^ b % B64 = X % 2 ^ (64 - b) * 2 ^ b := by rw [← b64_split (s := b) (by omega)]; exact Nat.mul_mod_mul_right _ _ _
          have h2 := (word_shift (s := b) (by omega) hYB).2
          have h3 : X % 2 ^ (64 - b) < 2 ^ (64 - b) := Nat.mod_lt _ (pow_pos2 _)
          have h4 : (X % 2 ^ (64 - b) + 1) * 2 ^ b ≤ 2 ^ (64 - b) * 2 ^ b := Nat.mul_le_mul_right _ h3
          rw [b64_split (by omega), Nat.add_mul, Nat.one_mul] at h4
          rw [h1]
          exact Nat.lt_of_lt_of_le (Nat.add_lt_add_left h2 _) h4
        obtain ⟨XS, hXS⟩ : ∃ x, X * 2 ^ b % B64 = x := ⟨_, rfl⟩
        obtain ⟨YS, hYS⟩ : ∃ x, Y / 2 ^ (64 - b) = x := ⟨_, rfl⟩
        rw [hXS] at e3 e5 hVB HST
        rw [hYS] at e4 e5 hVB HST
        obtain ⟨VV, hVV⟩ : ∃ x, XS + YS = x := ⟨_, rfl⟩
        rw [hVV] at e5 hVB HST
        have hT := limb_some (show f + i < o.length by rw [HO.out]; omega)
        obtain ⟨q3, q4⟩ := own_cell HOWN.out hT
        have HS := Lib.hid (own_store (w := wr.drew) HOWN.out HB.out.drew (Nat.le_of_eq HG.out) (f + i) VV hVB)
        have HBD := Lib.hid HB.out.drew
        have i1 : (i : Int) < (n : Int) + 1 := by omega
        have i2 : (f : Int) + (i : Int) < (f : Int) + (n : Int) + 1 := by omega
        have i4 : 0 ≤ (f : Int) + (i : Int) := by omega
        have i3 : ((f : Int) + (i : Int)).toNat = f + i := by omega
        have wk1 : IntKind.i64.wrap ((f : Int) + (i : Int)) = (f : Int) + (i : Int) := IntWalk.i64_in _ (by omega)
        have wk2 : IntKind.i64.wrap ((i : Int) - 1) = (i : Int) - 1 := IntWalk.i64_in _ (by omega)
        have wk3 : IntKind.i64.wrap (63 - (b : Int)) = 63 - (b : Int) := IntWalk.i64_in _ (by omega)
        have HYX : Hid ((if i + 1 = 0 then 0 else limbL a (i + 1 - 1)) = X) := by
          unfold Hid
          rw [if_neg (by omega), Nat.add_sub_cancel]
          exact hX
        clear hT hY hX hXS hYS hVV hrd
        go_wp2
        go_region_law (first
          | (go_simp; go_at_call 206; first | ((with_reducible refine (HLX.out _ HBD.out).mono ?_); rintro e w2 ⟨rfl, hw2⟩; obtain rfl := hw2.symm) | ((with_reducible refine (HLY.out _ HBD.out).mono ?_); rintro e w2 ⟨rfl, hw2⟩; obtain rfl := hw2.symm)))
        all_goals go_wp2
        all_goals go_roundg gk'
        all_goals first
          | exact ⟨i + 1, o.set (f + i) VV, by go_num, by omega, by omega, by rw [List.length_set]; exact HO.out, HS.out.1, fun j hj => by rw [limb_set (by omega)]; exact HZ.out j (by omega), by rw [HYX.out]; exact HST.out, HS.out.2⟩
          | omega
      · obtain rfl : i = n + 1 := by omega
        have hfin : valB B64 o = valB B64 a * 2 ^ k := by
          have h1 := HVAL.out
          rw [if_neg (by omega), Nat.add_sub_cancel, List.take_of_length_le (by rw [HN.out]; omega)] at h1
          have h2 : limbL a n = 0 := by unfold limbL; rw [List.getElem?_eq_none (by rw [HN.out]; omega)]; rfl
          have h3 : B64 ^ f * 2 ^ b = 2 ^ k := by
            rw [HK.out, Nat.pow_add, Nat.pow_mul]
            rfl
          rw [h2, Nat.zero_div, Nat.mul_zero, Nat.add_zero, h3, Nat.mul_comm] at h1
          exact h1
        have HFIN := Lib.hid hfin
        have hol : o.length < 9000000000 := by rw [HO.out]; omega
        have HROW : Hid (Calls Tryz.prog 157 #[.slice (some ⟨G, 0, none⟩) (f + n + 1) (f + n + 1)] wr fun e w' => e = .returned (.slice (some ⟨G, 0, none⟩) (trimL o).length (f + n + 1)) ∧ w' = wr) := by
          have h := trim_any (some ⟨G, 0, none⟩) (f + n + 1) o wr (by rw [HO.out]; exact HOWN.out.row) (by omega)
          rw [HO.out] at h
          exact h
        clear hfin
        go_wp2_with (first
          | (go_at_call 157; (refine HROW.out.mono ?_); rintro e w5 ⟨rfl, hw5⟩; obtain rfl := hw5.symm))
        go_ret
        have hlim : limB B64 (valB B64 a * 2 ^ k) = trimL o := by rw [← HFIN.out, lim_val b64_two HOWN.out.2]
        rw [hlim]
        refine ⟨some ⟨G, 0, none⟩, f + n + 1, rfl, ?_, HB.out⟩
        have h := HOWN.out.take (trim_len o)
        rwa [← trim_prefix] at h
end Go.Proofs.YtafmfnpjhhaikaaGreatDoor
