/-
  The walk of nat.shr.
-/
import Derived.Test.YtafmfnpjhhaikaaGreatDoorZad
import Derived.Shelf.RegionOpen
namespace Go.Proofs.YtafmfnpjhhaikaaGreatDoor
open Go.RowKit Go.Shelf
theorem shr_over {y b : Nat} (hb : b < 64) : IntKind.u64.wrap (IntKind.u64.wrap ((y : Int) * 2) * 2 ^ (63 - b)) = ((y % 2 ^ b * 2 ^ (64 - b) : Nat) : Int) := by
  have e : y % 2 ^ b * 2 ^ (64 - b) = y * 2 ^ (64 - b) % B64 := by
    have h : B64 = 2 ^ b * 2 ^ (64 - b) := by rw [Nat.mul_comm]; exact (b64_split (by omega)).symm
    rw [h]
    exact (Nat.mul_mod_mul_right _ _ _).symm
  have e1 : IntKind.u64.wrap ((y : Int) * 2) = ((y * 2 % B64 : Nat) : Int) := by
    have := word_shl_low (y := y) (s := 1)
    simpa using this
  rw [e1, word_shl_low, e]
  congr 1
  rw [Nat.mod_mul_mod, Nat.mul_assoc]
  congr 2
  rw [show 64 - b = (63 - b) + 1 by omega, Nat.pow_succ, Nat.mul_comm]
theorem shr_or {x y b : Nat} (hb : b < 64) (hx : x < B64) : bits .or .u64 ((x / 2 ^ b : Nat) : Int) ((y % 2 ^ b * 2 ^ (64 - b) : Nat) : Int) = ((x / 2 ^ b + y % 2 ^ b * 2 ^ (64 - b) : Nat) : Int) := by
  have h1 : x / 2 ^ b < 2 ^ (64 - b) := by
    rw [Nat.div_lt_iff_lt_mul (pow_pos2 _), b64_split (by omega)]
    exact hx
  have h2 : y % 2 ^ b * 2 ^ (64 - b) < B64 := by
    rw [← b64_split (s := b) (by omega), Nat.mul_comm (2 ^ (64 - b))]
    exact Nat.mul_lt_mul_of_pos_right (Nat.mod_lt _ (pow_pos2 _)) (pow_pos2 _)
  rw [u64_or_nat _ _ (Nat.lt_of_le_of_lt (Nat.div_le_self _ _) hx) h2, Nat.or_comm, word_over h1, Nat.add_comm]
theorem shr_lt {x y b : Nat} (hb : b < 64) (hx : x < B64) : x / 2 ^ b + y % 2 ^ b * 2 ^ (64 - b) < B64 := by
  have h1 : x / 2 ^ b < 2 ^ (64 - b) := by
    rw [Nat.div_lt_iff_lt_mul (pow_pos2 _), b64_split (by omega)]
    exact hx
  have h3 : y % 2 ^ b < 2 ^ b := Nat.mod_lt _ (pow_pos2 _)
  have h4 : (y % 2 ^ b + 1) * 2 ^ (64 - b) ≤ 2 ^ b * 2 ^ (64 - b) := Nat.mul_le_mul_right _ h3
  rw [Nat.mul_comm (2 ^ b), b64_split (by omega), Nat.add_mul, Nat.one_mul] at h4
  omega
theorem limb_drop (l : List Nat) (f j : Nat) : limbL (l.drop f) j = limbL l (f + j) := by
  unfold limbL
  rw [List.getElem?_drop]
theorem val_drop_div {B : Nat} (hB : 0 < B) {l : List Nat} (h : AllB B l) (f : Nat) : valB B (l.drop f) = valB B l / B ^ f := by
  by_cases hf : f ≤ l.length
  · have h1 := val_drop B l f hf
    have h2 : valB B (l.take f) < B ^ f := by
      have := val_lt (B := B) (l := l.take f) fun z hz => h z (List.mem_of_mem_take hz)
      rwa [List.length_take, Nat.min_eq_left hf] at this
    rw [h1, Nat.add_mul_div_left _ _ (Nat.pow_pos hB), Nat.div_eq_of_lt h2, Nat.zero_add]
  · rw [List.drop_of_length_le (by omega), Nat.div_eq_of_lt]
    · rfl
    · exact Nat.lt_of_lt_of_le (val_lt h) (Nat.pow_le_pow_right hB (by omega))
theorem shr_done {a o : List Nat} {j W k f : Nat} (hW : 0 < W) (hj : a.length ≤ j) {l : List Nat} (hl : AllB B64 l) (ha : a = l.drop f) (hk : 2 ^ k = B64 ^ f * W) (h : W * valB B64 o + limbL a 0 % W = valB B64 (a.take j) + B64 ^ j * (limbL a j % W)) :
    valB B64 o = valB B64 l / 2 ^ k := by
  have h1 : limbL a j = 0 := by unfold limbL; rw [List.getElem?_eq_none hj]; rfl
  rw [h1, Nat.zero_mod, Nat.mul_zero, Nat.add_zero, List.take_of_length_le hj] at h
  rw [hk, ← Nat.div_div_eq_div_mul, ← val_drop_div b64_pos hl, ← ha, ← h, Nat.mul_add_div hW, Nat.div_eq_of_lt (Nat.mod_lt _ hW), Nat.add_zero]
set_option maxHeartbeats 2000000 in
set_option maxRecDepth 100000 in
theorem shr_any (p : Option Addr) (c k : Nat) (l : List Nat) (w : World) (h : R64 w (.slice p l.length c) l) (hl : l.length < 1000000000) (hk : k < 64000000000) :
    Calls Tryz.prog 205 #[.slice p l.length c, .int .i64 (k : Int)] w fun e w' => ∃ q cq, e = .returned (.slice q (limB B64 (valB B64 l / 2 ^ k)).length cq) ∧
      O64 w' w.heap.size (.slice q (limB B64 (valB B64 l / 2 ^ k)).length cq) (limB B64 (valB B64 l / 2 ^ k)) ∧ Bel w w' := by
  have HR := Lib.hid h
  have HA := Lib.hid h.all
  obtain ⟨n, hn⟩ : ∃ n, l.length = n := ⟨_, rfl⟩
  have HN := Lib.hid hn
  rw [hn] at HR hl ⊢
  obtain ⟨f, hf⟩ : ∃ f, k / 64 = f := ⟨_, rfl⟩
  obtain ⟨b, hb⟩ : ∃ b, k % 64 = b := ⟨_, rfl⟩
  have hb64 : b < 64 := by omega
  have hf9 : f < 1000000000 := by omega
  have ek : k = 64 * f + b := by omega
  have e1 : (k : Int) / 64 = (f : Int) := by omega
  have e2 : (k : Int) % 64 = (b : Int) := by omega
  have HK : Hid (2 ^ k = B64 ^ f * 2 ^ b) := by
    unfold Hid
    rw [ek, Nat.pow_add, Nat.pow_mul]
    rfl
  obtain ⟨RES, hRES⟩ : ∃ r, valB B64 l / 2 ^ k = r := ⟨_, rfl⟩
  have HRES := Lib.hid hRES
  rw [hRES]
  clear h hn hf hb ek hRES
  go_enter Tryz.func205, Tryz.ntmps205
  go_wp2
  try rw [e1]
  try rw [e2]
  go_loopg [7, 8] n (fun gf s7 s8 wx => ∃ (j : Nat) (o : List Nat) (q : Option Addr) (cq : Nat), s8 = .int .i64 ((f : Int) + (j : Int)) ∧ s7 = .slice q o.length cq ∧ n ≤ f + j + gf ∧ (j = 0 ∨ f + j ≤ n) ∧ o.length = j ∧ O64 wx w.heap.size (.slice q o.length cq) o ∧
    2 ^ b * valB B64 o + limbL (l.drop f) 0 % 2 ^ b = valB B64 ((l.drop f).take j) + B64 ^ j * (limbL (l.drop f) j % 2 ^ b) ∧ Bel w wx)
  case atStart => exact ⟨0, [], none, 0, by simp, rfl, by omega, .inl rfl, rfl, LOwn.nil _ _ _ _ _, by simp [valB], Bel.refl w⟩
  case round =>
    obtain ⟨j, o, q, cq, rfl, rfl, hg, hjn, ho, hown, hval, hbb⟩ := hrel
    have HOWN := Lib.hid hown
    have HVAL := Lib.hid hval
    have HB := Lib.hid hbb
    have HO := Lib.hid ho
    clear hown hval hbb ho
    have hol : o.length < 2000000000 := by have := HO.out; omega
    obtain ⟨m, hm⟩ : ∃ m, f + j = m := ⟨_, rfl⟩
    have em : (f : Int) + (j : Int) = (m : Int) := by omega
    rw [em]
    have HM := Lib.hid hm
    by_cases hlt : m < n
    · obtain ⟨gk', rfl⟩ : ∃ g, gk = g + 1 := ⟨gk - 1, by omega⟩
      have hrd : ∀ X, Bel w X → R64 X (.slice p l.length c) l := fun X hX => by rw [HN.out]; exact HR.out.bel hX
      have HLX : Hid (∀ X, Bel w X → _) := fun X hX => limb_any p c m l X (hrd X hX) (by omega)
      have HLY : Hid (∀ X, Bel w X → _) := fun X hX => limb_any p c (m + 1) l X (hrd X hX) (by omega)
      rw [HN.out, show ((m + 1 : Nat) : Int) = (m : Int) + 1 by omega] at HLY
      rw [HN.out] at HLX
      have hXB := limb_lt b64_pos HA.out m
      have HST := Lib.hid (shr_step (W := 2 ^ b) (U := 2 ^ (64 - b)) (by rw [Nat.mul_comm]; exact b64_split (by omega)) HO.out HVAL.out)
      rw [limb_drop l f j, limb_drop l f (j + 1), ← Nat.add_assoc, hm] at HST
      have HNX : Hid (limbL (l.drop f) (j + 1) = limbL l (m + 1)) := by unfold Hid; rw [limb_drop, ← Nat.add_assoc, hm]
      obtain ⟨Y, hY⟩ : ∃ Y, limbL l (m + 1) = Y := ⟨_, rfl⟩
      obtain ⟨X, hX⟩ : ∃ X, limbL l m = X := ⟨_, rfl⟩
      rw [hY] at HLY HST HNX
      rw [hX] at HLX HST hXB
      have e3 : (X : Int) / 2 ^ b = ((X / 2 ^ b : Nat) : Int) := by rw [Int.natCast_ediv, Int.natCast_pow]; rfl
      have e4 := shr_over (y := Y) hb64
      have e5 := shr_or (x := X) (y := Y) hb64 hXB
      have hVB := shr_lt (x := X) (y := Y) hb64 hXB
      obtain ⟨XS, hXS⟩ : ∃ x, X / 2 ^ b = x := ⟨_, rfl⟩
      obtain ⟨YS, hYS⟩ : ∃ x, Y % 2 ^ b * 2 ^ (64 - b) = x := ⟨_, rfl⟩
      rw [hXS] at e3 e5 hVB HST
      rw [hYS] at e4 e5 hVB HST
      obtain ⟨VV, hVV⟩ : ∃ x, XS + YS = x := ⟨_, rfl⟩
      rw [hVV] at e5 hVB HST
      have HBD := Lib.hid HB.out.drew
      have HOD : Hid (∀ o', wr.drew.alloc o' = wr.drew.alloc o') := fun _ => rfl
      have hmx : o.length + 1 ≤ maxLen := by unfold maxLen; omega
      have hmb : (o.length + 1) * 8 ≤ 140737488355328 := by omega
      have hbs : w.heap.size ≤ wr.heap.size := HB.out.size
      have i1 : (m : Int) < (n : Int) := by omega
      have wk1 : IntKind.i64.wrap ((m : Int) + 1) = (m : Int) + 1 := IntWalk.i64_in _ (by omega)
      have wk3 : IntKind.i64.wrap (63 - (b : Int)) = 63 - (b : Int) := IntWalk.i64_in _ (by omega)
      clear hY hX hXS hYS hVV hrd hm em
      go_wp2
      go_region_law (first
        | (go_simp; go_at_call 206; first | ((with_reducible refine (HLX.out _ HBD.out).mono ?_); rintro e w2 ⟨rfl, hw2⟩; obtain rfl := hw2.symm) | ((with_reducible refine (HLY.out _ HBD.out).mono ?_); rintro e w2 ⟨rfl, hw2⟩; obtain rfl := hw2.symm))
        | (refine step_push (by rfl) (.tmp 20) (.tmp 35) 22 (by rfl) w.heap.size 105 _ 1 8 Tryz.underlying22 infoU64 (by rfl) (by decide) (.slice q o.length cq) o.length _ (by rfl) (Bel.own ((Bel.refl _).drew.alloc _) HOWN.out.1) _ (0, 0) _ (by rfl) (heap_alloc_new _ _) (by rfl) (by simp [Value.oneCell']) hmx hmb (by simp; omega) ?_; intro g' cap w1 ho1 hg1; have HO3 : Hid (O64 w1 w.heap.size (.slice (some ⟨g', 0, none⟩) (o.length + 1) cap) (o ++ [VV])) := ⟨by rw [List.length_append, List.length_singleton, List.map_append]; exact ho1, all_snoc HOWN.out.2 hVB⟩; have HB3 : Hid (Bel w w1) := grown_bel (HB.out.drew.alloc _) (Bel.own ((Bel.refl _).drew.alloc _) HOWN.out.1) (Nat.le_refl _) hg1; clear ho1 hg1))
      all_goals go_wp2
      all_goals go_roundg gk'
      all_goals first
        | (have hlen : (o ++ [VV]).length = o.length + 1 := by simp
           exact ⟨j + 1, o ++ [VV], _, _, by have := HM.out; congr 1; omega, by rw [hlen], by have := HM.out; omega, .inr (by have := HM.out; omega), by rw [hlen, HO.out], by rw [hlen]; exact HO3.out, by rw [HNX.out]; exact HST.out, HB3.out⟩)
        | (have := HM.out; omega)
    · have HFIN := Lib.hid (shr_done (pow_pos2 b) (show (l.drop f).length ≤ j by rw [List.length_drop, HN.out]; omega) HA.out rfl HK.out HVAL.out)
      clear hm em
      go_wp2_with (first
        | (go_at_call 157; (with_reducible refine (trim_any _ _ o _ HOWN.out.row (by omega)).mono ?_); rintro e w4 ⟨rfl, hw4⟩; obtain rfl := hw4.symm))
      go_ret
      have hlim : limB B64 RES = trimL o := by rw [← HRES.out, ← HFIN.out, lim_val b64_two HOWN.out.2]
      rw [hlim]
      refine ⟨q, cq, rfl, ?_, HB.out⟩
      have h := HOWN.out.take (trim_len o)
      rwa [← trim_prefix] at h
theorem good_iff {l : List Nat} {x k : Nat} (hk : l.length = k + 1) (hx : l[k]? = some x) : (trimL l = l) ↔ x ≠ 0 := by
  constructor
  · intro h; exact trim_last h hk hx
  · intro h0
    have h := trim_take_pos hx h0
    rwa [← hk, List.take_length] at h
set_option maxRecDepth 100000 in
theorem natGood_any (p : Option Addr) (c : Nat) (l : List Nat) (w : World) (h : R64 w (.slice p l.length c) l) (hl : l.length < 1000000000) :
    Calls Tryz.prog 134 #[.slice p l.length c] w fun e w' => e = .returned (.bool (decide (trimL l = l))) ∧ w' = w := by
  obtain ⟨n, hn⟩ : ∃ n, l.length = n := ⟨_, rfl⟩
  by_cases h0 : n = 0
  · subst h0
    have : l = [] := List.length_eq_zero_iff.1 hn
    subst this
    rw [show decide (trimL [] = []) = true from rfl]
    clear h hl hn
    go_enter Tryz.func134, Tryz.ntmps134
    go_wp2
    go_ret
    exact ⟨rfl, rfl⟩
  · obtain ⟨k, rfl⟩ : ∃ k, n = k + 1 := ⟨n - 1, by omega⟩
    have hx := limb_some (l := l) (j := k) (by omega)
    obtain ⟨b, o, c', he, _, q0, hxB⟩ := h.at hx
    simp only [Value.slice.injEq] at he
    obtain ⟨rfl, hnn, rfl⟩ := he
    clear hnn
    have hg := good_iff hn hx
    obtain ⟨X, hX⟩ : ∃ X, limbL l k = X := ⟨_, rfl⟩
    rw [hX] at q0 hg
    rw [hn] at hl ⊢
    have hz : ((k : Int) + 1 == 0) = false := beq_false_of_ne (by omega)
    have hdec : decide (trimL l = l) = ((X : Int) != 0) := by
      by_cases hx0 : X = 0
      · subst hx0
        rw [decide_eq_false (fun h => hg.1 h rfl)]
        rfl
      · rw [decide_eq_true (hg.2 hx0)]
        symm
        simpa using hx0
    have i1 : (k : Int) < (k : Int) + 1 := by omega
    have HD := Lib.hid hdec
    clear h hg hX hx hdec hn
    go_enter Tryz.func134, Tryz.ntmps134
    go_wp2
    go_ret
    exact ⟨by rw [HD.out]; rfl, rfl⟩
set_option maxRecDepth 100000 in
theorem natBits_any (p : Option Addr) (c : Nat) (l : List Nat) (w : World) (h : R64 w (.slice p l.length c) l) (hl : l.length < 1000000000) :
    Calls Tryz.prog 137 #[.slice p l.length c] w fun e w' => ∃ B : Nat, e = .returned (.int .i64 (B : Int)) ∧ w' = w ∧ valB B64 l < 2 ^ B ∧ (valB B64 l = 0 → B = 0) ∧ (0 < valB B64 l → 0 < B ∧ 2 ^ (B - 1) ≤ valB B64 l) := by
  have HT := Lib.hid (fun X hX => trim_any p c l X (h.bel hX) (by omega))
  have hval : valB B64 (trimL l) = valB B64 l := val_trim B64 l
  have hrow : R64 w (.slice p (trimL l).length c) (trimL l) := by
    have h2 := h.take (trim_len l)
    rwa [← trim_prefix] at h2
  have hnl : (trimL l).length < 1000000000 := Nat.lt_of_le_of_lt (trim_len l) hl
  have htt : trimL (trimL l) = trimL l := trim_trim l
  obtain ⟨a, ha⟩ : ∃ a, trimL l = a := ⟨_, rfl⟩
  obtain ⟨m, hm⟩ : ∃ m, l.length = m := ⟨_, rfl⟩
  rw [ha] at hval hrow hnl HT htt
  rw [hm] at HT ⊢
  rw [← hval]
  obtain ⟨n, hn⟩ : ∃ n, a.length = n := ⟨_, rfl⟩
  rw [hn] at hrow hnl HT
  clear h hval ha hm hl
  by_cases h0 : n = 0
  · subst h0
    have : a = [] := List.length_eq_zero_iff.1 hn
    subst this
    clear hrow htt hn
    go_enter Tryz.func137, Tryz.ntmps137
    go_wp2_with (first
      | (go_at_call 157; (with_reducible refine (HT.out _ (Bel.refl _)).mono ?_); rintro e w4 ⟨rfl, hw4⟩; obtain rfl := hw4.symm))
    go_ret
    exact ⟨0, rfl, rfl, by simp [valB], fun _ => rfl, fun h => by simp [valB] at h⟩
  · obtain ⟨k, rfl⟩ : ∃ k, n = k + 1 := ⟨n - 1, by omega⟩
    have hx := limb_some (l := a) (j := k) (by omega)
    obtain ⟨b, o, c', he, _, q0, hxB⟩ := hrow.at hx
    simp only [Value.slice.injEq] at he
    obtain ⟨rfl, hnn, rfl⟩ := he
    clear hnn
    have hx0 := trim_last htt hn hx
    have hv := val_take B64 a k
    rw [show k + 1 = a.length by omega, List.take_length] at hv
    have hlo : valB B64 (a.take k) < B64 ^ k := by
      have := val_lt (B := B64) (l := a.take k) fun z hz => hrow.all z (List.mem_of_mem_take hz)
      rwa [List.length_take, Nat.min_eq_left (by omega)] at this
    obtain ⟨X, hX⟩ : ∃ X, limbL a k = X := ⟨_, rfl⟩
    rw [hX] at q0 hx0 hv hxB
    obtain ⟨h1, h2, h3⟩ := Lib.bitLenAux_bounds 64 X hxB hx0
    have hlen := fun wx => Tryz.bits_Len64 (X : Int) wx (by omega) (by unfold B64 at hxB; omega)
    have e : Lib.bitLen ((X : Int)).toNat = Lib.bitLenAux 64 X := by rw [Int.toNat_natCast]; rfl
    rw [e] at hlen
    obtain ⟨t, ht⟩ : ∃ t, Lib.bitLenAux 64 X = t := ⟨_, rfl⟩
    rw [ht] at hlen h1 h2 h3
    have ht64 : t ≤ 64 := by
      by_cases h : t ≤ 64
      · exact h
      · have h4 : 2 ^ 64 ≤ 2 ^ (t - 1) := Nat.pow_le_pow_right (by omega) (by omega)
        unfold B64 at hxB
        omega
    have HL := Lib.hid hlen
    have eB : B64 ^ k = 2 ^ (64 * k) := by rw [Nat.pow_mul]; rfl
    have HV : Hid (valB B64 a < 2 ^ (64 * k + t) ∧ 0 < valB B64 a ∧ 2 ^ (64 * k + t - 1) ≤ valB B64 a) := by
      have g1 : B64 ^ k * (X + 1) ≤ B64 ^ k * 2 ^ t := Nat.mul_le_mul_left _ h3
      have g2 : B64 ^ k * 2 ^ (t - 1) ≤ B64 ^ k * X := Nat.mul_le_mul_left _ h2
      have g3 : 0 < B64 ^ k * 2 ^ (t - 1) := Nat.mul_pos (Nat.pow_pos b64_pos) (pow_pos2 _)
      rw [Nat.mul_add, Nat.mul_one] at g1
      refine ⟨?_, by omega, ?_⟩
      · rw [Nat.pow_add, ← eB]; omega
      · rw [show 64 * k + t - 1 = 64 * k + (t - 1) by omega, Nat.pow_add, ← eB]; omega
    have hz : ((k : Int) + 1 == 0) = false := beq_false_of_ne (by omega)
    have i1 : (k : Int) < (k : Int) + 1 := by omega
    clear htt hrow hx hx0 hv hlo hX hlen ht h2 h3 hn eB e
    go_enter Tryz.func137, Tryz.ntmps137
    go_wp2_with (first
      | (go_at_call 157; (with_reducible refine (HT.out _ (Bel.refl _)).mono ?_); rintro e w4 ⟨rfl, hw4⟩; obtain rfl := hw4.symm)
      | (go_at_call 177; (with_reducible refine (HL.out _).mono ?_); rintro e w5 ⟨rfl, hw5⟩; obtain rfl := hw5.symm))
    go_ret
    exact ⟨64 * k + t, by go_num, rfl, HV.out.1, fun h => by have := HV.out.2.1; omega, fun _ => ⟨by omega, HV.out.2.2⟩⟩
theorem size64 (w : World) : (Go.sizeOf 105).run Tryz.prog w = .ok 1 w := by kernel_rfl
theorem clone_any (p : Option Addr) (c : Nat) (l : List Nat) (w : World) (h : R64 w (.slice p l.length c) l) (hp : p = none ∨ ∃ b o, p = some ⟨b, o, none⟩) (hl : l.length < 1000000000) :
    Calls Tryz.prog 173 #[.slice p l.length c] w fun e w' => ∃ q cq, e = .returned (.slice q l.length cq) ∧ O64 w' w.heap.size (.slice q l.length cq) l ∧ Bel w w' := by
  obtain ⟨i0, hi, hz0, hz1, hz2⟩ := info_parts infoU64
  have ha := h.all
  obtain ⟨p', c', h1, h2, h3, h4⟩ := h
  simp only [Value.slice.injEq] at h1
  obtain ⟨rfl, _, rfl⟩ := h1
  rcases hp with rfl | ⟨b, off, rfl⟩
  · have h0 : l = [] := by
      by_cases hne : l = []
      · exact hne
      · obtain ⟨b, o, hb, _⟩ := h4 hne
        cases hb
    subst h0
    exact (Tryz.slices_Clone_nil _ c w).mono fun e w' ⟨h1, h2⟩ => ⟨none, 0, h1, by rw [h2]; exact LOwn.nil _ _ _ _ _, by rw [h2]; exact Bel.refl _⟩
  · have hcell : ∀ (j : Nat) (u : Value), (l.map (lmV .u64))[j]? = some u → w.cell? ⟨b, off + j, none⟩ = some u := by
      intro j u hj
      rw [List.getElem?_map] at hj
      cases hx : l[j]? with
      | none => rw [hx] at hj; simp at hj
      | some x =>
        rw [hx] at hj
        obtain ⟨b', o', hb, h6⟩ := h4 (fun e => by rw [e] at hx; simp at hx)
        simp only [Option.some.injEq, Addr.mk.injEq, and_true] at hb
        obtain ⟨rfl, rfl⟩ := hb
        have := h6 j x hx
        rw [this]
        simpa using hj
    refine (Tryz.slices_Clone i0 (.int .u64 0) 1 8 hi hz0 hz1 hz2 rfl (by decide) size64 b off l.length c (l.map (lmV .u64)) w (by simp) (by unfold maxLen; omega) (by omega) hcell (fun u hu => ?_)).mono ?_
    · obtain ⟨x, _, rfl⟩ := List.mem_map.1 hu
      rfl
    · rintro e w' ⟨v, he, ho, _, hb⟩
      obtain ⟨q, cq, rfl⟩ := own_form ho
      exact ⟨q, cq, he, ⟨ho, ha⟩, hb⟩
end Go.Proofs.YtafmfnpjhhaikaaGreatDoor
namespace Go.Proofs.YtafmfnpjhhaikaaGreatDoor
open Go
variable {F : Fence} {n : Nat} {P : Program} {ops : Array Oper} {md : Region.Mode} {C : World → Prop} {nq : Nat} {Q : Exit → Act → World → Prop}
/-- Only takes a tuple apart. -/
def stillOp (o : Oper) : Bool := match o.op with | .extract _ _ => true | _ => false
theorem still_yields {o : Oper} {v : Value} {a : Act} (hs : stillOp o = true) (hy : YieldsQuiet F n P ops C o v a) {w : World} (hw : C w) : YieldsFenced P ops o v a := by
  obtain ⟨d, op, ty, af, gd, tx⟩ := o
  cases op <;> simp [stillOp] at hs
  rename_i t ix
  refine ⟨?_, fun w' => rfl⟩
  rcases hy.2 with ⟨h1, h2⟩ | h1
  · refine .inl ⟨h1, fun w' => ?_⟩
    have h3 := h2 w hw
    unfold Oper.quietAtIn at h3
    simp only [execOp] at h3 ⊢
    cases ht : a.eval t <;> simp only [ht, Instr.extract] at h3 ⊢ <;> try exact h3.elim
    rename_i vs
    cases hv : vs[ix]? <;> simp only [hv] at h3 ⊢
    · exact h3.elim
    · obtain ⟨_, rfl⟩ := h3
      rfl
  · exact .inr h1
/-- An operation waits for operation i, at once or through others. -/
def reachB (md : Region.Mode) (ops : Array Oper) (i : Nat) : Nat → Oper → Bool
  | 0, o => o.after.any fun e => Region.binds md e && e.on == i
  | f + 1, o => (o.after.any fun e => Region.binds md e && e.on == i) || o.after.any fun e => Region.binds md e && (match ops[e.on]? with | none => false | some o' => reachB md ops i f o')
/-- What is listed has all listed that it waited for. -/
def Down (md : Region.Mode) (ops : Array Oper) (listed : Array Bool) : Prop := ∀ (j : Nat) (o : Oper), ops[j]? = some o → listed.getD j false = true → ∀ e ∈ o.after, Region.binds md e = true → listed.getD e.on false = true
theorem getD_on {listed : Array Bool} {j k : Nat} (h : listed.getD k false = true) : (listed.setIfInBounds j true).getD k false = true := by
  by_cases hjk : j = k
  · subst hjk
    rcases Nat.lt_or_ge j listed.size with h' | h'
    · simp [h']
    · simp [Array.getElem?_eq_none h'] at h
  · rw [getD_set_ne false hjk]; exact h
theorem Down.add {listed : Array Bool} (h : Down md ops listed) {j : Nat} (hj : j ∈ Region.ready md ops listed) : Down md ops (listed.setIfInBounds j true) := by
  intro k o ho hk e he hb
  by_cases hjk : j = k
  · subst hjk
    obtain ⟨_, o', ho', hall⟩ := mem_ready.1 hj
    rw [ho] at ho'
    cases ho'
    exact getD_on (hall e he hb)
  · rw [getD_set_ne false hjk] at hk
    exact getD_on (h k o ho hk e he hb)
theorem reach_listed {listed : Array Bool} (h : Down md ops listed) {i : Nat} : ∀ (f : Nat) (o : Oper), (∀ e ∈ o.after, Region.binds md e = true → listed.getD e.on false = true) → reachB md ops i f o = true → listed.getD i false = true := by
  intro f
  induction f with
  | zero =>
    intro o ho hr
    obtain ⟨e, he, hb⟩ := Array.any_eq_true'.1 hr
    simp only [Bool.and_eq_true, beq_iff_eq] at hb
    rw [← hb.2]
    exact ho e he hb.1
  | succ f ih =>
    intro o ho hr
    simp only [reachB, Bool.or_eq_true] at hr
    rcases hr with hr | hr
    · obtain ⟨e, he, hb⟩ := Array.any_eq_true'.1 hr
      simp only [Bool.and_eq_true, beq_iff_eq] at hb
      rw [← hb.2]
      exact ho e he hb.1
    · obtain ⟨e, he, hb⟩ := Array.any_eq_true'.1 hr
      simp only [Bool.and_eq_true] at hb
      obtain ⟨hb1, hb2⟩ := hb
      cases ho' : ops[e.on]? with
      | none => rw [ho'] at hb2; cases hb2
      | some o' =>
        rw [ho'] at hb2
        exact ih o' (h e.on o' ho' (ho e he hb1)) hb2
/-- The operations from nq on wait for all ahead of nq, but for those that take a tuple apart. -/
def waits (md : Region.Mode) (ops : Array Oper) (nq : Nat) : Bool :=
  (List.range ops.size).all fun m => decide (m < nq) || (match ops[m]? with | none => true | some o => (List.range nq).all fun i => (match ops[i]? with | none => true | some oi => stillOp oi) || reachB md ops i 3 o)
theorem waits_spec (h : waits md ops nq = true) {m : Nat} {o oi : Oper} (ho : ops[m]? = some o) (hm : nq ≤ m) {i : Nat} (hi : i < nq) (hoi : ops[i]? = some oi) : stillOp oi = true ∨ reachB md ops i 3 o = true := by
  have h1 := List.all_eq_true.1 h m (List.mem_range.2 (Array.getElem?_eq_some_iff.1 ho).1)
  simp only [ho, Bool.or_eq_true, decide_eq_true_eq] at h1
  rcases h1 with h1 | h1
  · omega
  · have h2 := List.all_eq_true.1 h1 i (List.mem_range.2 hi)
    simp only [hoi, Bool.or_eq_true] at h2
    exact h2
theorem getD_both {listed : Array Bool} {i : Nat} (h1 : listed.getD i true = false) (h2 : listed.getD i false = true) : False := by
  rcases Nat.lt_or_ge i listed.size with h' | h'
  · simp [h'] at h1 h2; rw [h1] at h2; cases h2
  · simp [Array.getElem?_eq_none h'] at h1
theorem fenced_wpOp {i : Nat} {o : Oper} {v : Value} {a : Act} (hd : ∀ c, o.op ≠ .defer c) (hi : ops[i]? = some o) (hy : YieldsFenced P ops o v a)
    {K : Act → World → Prop} {w : World} (h : K (a.put o.dst v) w) : wpOpIn F n P ops Q i K a w := by
  unfold Go.wpOpIn
  simp only [hi]
  have hab : ∀ f, o.about P w a.eval = some f → F.fn f := fun f hf => by rw [hy.2 w] at hf; cases hf
  rcases hy.1 with ⟨hw, hv⟩ | ⟨hw, rfl⟩
  · simp only [hw, if_true, Oper.wpIn, Oper.semAt_eq _ _ _ hd, hv w, Oper.uponIn]; exact ⟨hab, h⟩
  · simp only [hw, Bool.false_eq_true, if_false]; exact ⟨hab, h⟩
theorem opIn_put {j : Nat} {oi oj : Oper} {v : Value} (hdj : ∀ c, oj.op ≠ .defer c) (hj : ops[j]? = some oj) (hap : oi.apart ops oj = true)
    (hsi : ∀ cs b, oi.op ≠ .select cs b) (hsj : ∀ cs b, oj.op ≠ .select cs b)
    (hQ : ∀ c a w, Q (.panic c) (a.put oi.dst v) w → Q (.panic c) a w) {K : Act → World → Prop} {a : Act} {w : World}
    (hy : YieldsFenced P ops oi v a) (h : wpOpIn F n P ops Q j K (a.put oi.dst v) w) :
    wpOpIn F n P ops Q j (fun a' w' => YieldsFenced P ops oi v a' ∧ K (a'.put oi.dst v) w') a w := by
  obtain ⟨h1, h2, h3⟩ := Oper.apart_spec hap
  have keep : ∀ (a : Act), YieldsFenced P ops oi v a → ∀ u, YieldsFenced P ops oi v (a.put oj.dst u) := fun a hy u =>
    hy.of_same (execOp_put oi hsi a oj.dst u h3) (wanted_put oi a oj.dst u h3) (fun w => about_put oi w a oj.dst u h3)
  have keepD : ∀ d, YieldsFenced P ops oi v { a with defers := d :: a.defers } := fun d => hy.of_same rfl rfl (fun _ => rfl)
  unfold wpOpIn at *
  simp only [hj] at *
  rw [wanted_put oj a oi.dst v h1, about_put oj w a oi.dst v h1] at h
  split
  · rename_i hw
    simp only [hw, if_true] at h
    unfold Oper.wpIn at *
    rw [about_put oj w a oi.dst v h1] at h
    refine ⟨h.1, ?_⟩
    have h := h.2
    rw [Oper.semAt_eq _ _ _ hdj, execOp_put oj hsj a oi.dst v h1] at h
    rw [Oper.semAt_eq _ _ _ hdj]
    generalize (execOp a.eval oj).run P w = r at *
    cases r with
    | ok x w' =>
      cases x <;> simp only [Oper.uponIn] at h ⊢
      case value u => exact ⟨keep a hy u, by rw [← Act.put_comm a v u h2]; exact h⟩
      case skip => exact ⟨keep a hy _, by rw [← Act.put_comm a v undef h2]; exact h⟩
      case defer d =>
        refine ⟨keep _ (keepD d) _, ?_⟩
        rw [← Act.put_comm _ v undef h2, ← Act.put_defers]
        exact h
      case enter f args =>
        refine ⟨h.1, CallsIn.mono h.2 fun e w'' he => ?_⟩
        cases e with
        | returned u => exact ⟨keep a hy u, by rw [← Act.put_comm a v u h2]; exact he⟩
        | panicked c => exact hQ _ _ _ he
        | outgrown => exact he
      case row row args => exact ⟨h.1, RowsIn.mono h.2 fun u w'' he => ⟨keep a hy u, by rw [← Act.put_comm a v u h2]; exact he⟩⟩
      case round l f tmps assign body =>
        refine ⟨h.1, RoundIn.mono h.2 fun e w'' he => ?_⟩
        cases e with
        | returned u => exact ⟨keep a hy u, by rw [← Act.put_comm a v u h2]; exact he⟩
        | panicked c => exact hQ _ _ _ he
        | outgrown => exact he
    | halt x w' =>
      cases x <;> simp only [Oper.uponIn] at h ⊢
      case panic u => exact hQ _ _ _ h
  · rename_i hw
    simp only [hw] at h
    exact ⟨h.1, keep a hy _, by rw [← Act.put_comm a v undef h2]; exact h.2⟩
theorem anyIn_first {i : Nat} {oi : Oper} {v : Value} (hnd : ∀ (i : Nat) (o : Oper), ops[i]? = some o → ∀ c, o.op ≠ .defer c) (hi : ops[i]? = some oi) (hsel : ∀ (j : Nat) (o : Oper) cs b, ops[j]? = some o → o.op ≠ .select cs b)
    (hQ : ∀ c a w, Q (.panic c) (a.put oi.dst v) w → Q (.panic c) a w) :
    ∀ (fuel : Nat) (listed : Array Bool) (a : Act) (w : World),
      (∀ j oj, ops[j]? = some oj → j ≠ i → listed.getD j true = false → (∀ e ∈ oj.after, Region.binds md e = true → e.on ≠ i) → oi.apart ops oj = true) →
      i ∈ Region.ready md ops listed → YieldsFenced P ops oi v a →
      wpAnyIn F n P md ops Q fuel (listed.setIfInBounds i true) (a.put oi.dst v) w → wpAnyIn F n P md ops Q (fuel + 1) listed a w := by
  intro fuel
  induction fuel with
  | zero =>
    intro listed a w _ hr hy H
    refine ⟨fun h => (by rw [h] at hr; cases hr), fun j hj => ?_⟩
    by_cases hji : j = i
    · subst hji; exact fenced_wpOp (hnd j oi hi) hi hy H
    · have := ready_mono hj hji
      rw [H.1] at this
      cases this
  | succ fuel ih =>
    intro listed a w hfree hr hy H
    refine ⟨fun h => (by rw [h] at hr; cases hr), fun j hj => ?_⟩
    by_cases hji : j = i
    · subst hji; exact fenced_wpOp (hnd j oi hi) hi hy H
    · have h1 := H.2 j (ready_mono hj hji)
      obtain ⟨hjun, oj, hoj, hall⟩ := mem_ready.1 hj
      have hnot : ∀ e ∈ oj.after, Region.binds md e = true → e.on ≠ i := fun e he hb heq => by
        have h2 := hall e he hb
        rw [heq] at h2
        exact getD_both (mem_ready.1 hr).1 h2
      have h2 := opIn_put (hnd j oj hoj) hoj (hfree j oj hoj hji hjun hnot) (fun cs b => hsel i oi cs b hi) (fun cs b => hsel j oj cs b hoj) hQ hy h1
      have hfree' : ∀ m om, ops[m]? = some om → m ≠ i → (listed.setIfInBounds j true).getD m true = false → (∀ e ∈ om.after, Region.binds md e = true → e.on ≠ i) → oi.apart ops om = true := fun m om hm hmi hun hno => by
        refine hfree m om hm hmi ?_ hno
        by_cases hjm : j = m
        · subst hjm; exact hjun
        · rw [getD_set_ne true hjm] at hun; exact hun
      refine wpOpIn_mono (fun a' w' h3 => ih (listed.setIfInBounds j true) a' w' hfree' (ready_mono hr (Ne.symm hji)) h3.1 ?_) h2
      rw [Array.setIfInBounds_comm _ _ hji]
      exact h3.2
/-- The reading in whatever order, the others in every world of the class. -/
def mixA (F : Fence) (n : Nat) (P : Program) (md : Region.Mode) (ops : Array Oper) (C : World → Prop) (nq : Nat) (Q : Exit → Act → World → Prop) : Nat → Array Bool → Act → Prop
  | 0, listed, a => ∀ w, C w → wpAnyIn F n P md ops Q 0 listed a w
  | k + 1, listed, a => (Region.ready md ops listed = [] → ∀ w, C w → Q .normal a w) ∧ ∀ j ∈ Region.ready md ops listed,
      (j < nq → qOpIn F n P ops C j (mixA F n P md ops C nq Q k (listed.setIfInBounds j true)) a) ∧ (nq ≤ j → ∀ w, C w → wpOpIn F n P ops Q j (wpAnyIn F n P md ops Q k (listed.setIfInBounds j true)) a w)
theorem mixA_any (hnd : ∀ (i : Nat) (o : Oper), ops[i]? = some o → ∀ c, o.op ≠ .defer c) :
    ∀ (k : Nat) (listed : Array Bool) (a : Act) (w : World), C w → mixA F n P md ops C nq Q k listed a → wpAnyIn F n P md ops Q k listed a w
  | 0, _, _, w, hw, h => h w hw
  | k + 1, listed, a, w, hw, h => by
    refine ⟨fun h0 => h.1 h0 w hw, fun i hi => ?_⟩
    obtain ⟨h1, h2⟩ := h.2 i hi
    by_cases hlt : i < nq
    · have hh := h1 hlt
      unfold qOpIn at hh
      unfold wpOpIn
      cases ho : ops[i]? with
      | none => simp only [ho] at hh ⊢; exact mixA_any hnd k _ _ _ hw hh
      | some o =>
        simp only [ho] at hh ⊢
        obtain ⟨ha, hh⟩ := hh
        by_cases hwn : Region.wanted o (yielded ops a.tmps) = true
        · rw [if_pos hwn] at hh ⊢
          exact quietOp_wp (hnd i o ho) hw (fun a' w' hw' hk => mixA_any hnd k _ a' w' hw' hk) ha hh
        · rw [if_neg hwn] at hh ⊢
          exact ⟨ha w hw, mixA_any hnd k _ _ _ hw hh⟩
    · exact h2 (by omega) w hw
theorem mixA_first {i : Nat} {oi : Oper} {v : Value} {w0 : World} (hw0 : C w0) (hnd : ∀ (i : Nat) (o : Oper), ops[i]? = some o → ∀ c, o.op ≠ .defer c) (hw : waits md ops nq = true) (hiq : i < nq) (hi : ops[i]? = some oi) (hsel : ∀ (j : Nat) (o : Oper) cs b, ops[j]? = some o → o.op ≠ .select cs b)
    (hQ : ∀ c d u a w, Q (.panic c) (a.put d u) w → Q (.panic c) a w) :
    ∀ (k : Nat) (listed : Array Bool) (a : Act), Down md ops listed →
      (∀ j oj, ops[j]? = some oj → j ≠ i → listed.getD j true = false → (∀ e ∈ oj.after, Region.binds md e = true → e.on ≠ i) → oi.apart ops oj = true) →
      i ∈ Region.ready md ops listed → YieldsQuiet F n P ops C oi v a →
      mixA F n P md ops C nq Q k (listed.setIfInBounds i true) (a.put oi.dst v) → mixA F n P md ops C nq Q (k + 1) listed a := by
  intro k
  induction k with
  | zero =>
    intro listed a _ _ hr hy H
    refine ⟨fun h => (by rw [h] at hr; cases hr), fun j hj => ?_⟩
    by_cases hji : j = i
    · subst hji; exact ⟨fun _ => hy.qOpIn hi H, fun h => absurd h (by omega)⟩
    · have h1 := (H w0 hw0).1
      have h2 := ready_mono hj hji
      rw [h1] at h2
      cases h2
  | succ k ih =>
    intro listed a hcl hfree hr hy H
    refine ⟨fun h => (by rw [h] at hr; cases hr), fun j hj => ?_⟩
    by_cases hji : j = i
    · subst hji; exact ⟨fun _ => hy.qOpIn hi H, fun h => absurd h (by omega)⟩
    · obtain ⟨h1, h2⟩ := H.2 j (ready_mono hj hji)
      obtain ⟨hjun, oj, hoj, hall⟩ := mem_ready.1 hj
      have hnot : ∀ e ∈ oj.after, Region.binds md e = true → e.on ≠ i := fun e he hb heq => by
        have h2 := hall e he hb
        rw [heq] at h2
        exact getD_both (mem_ready.1 hr).1 h2
      have hfree' : ∀ m om, ops[m]? = some om → m ≠ i → (listed.setIfInBounds j true).getD m true = false → (∀ e ∈ om.after, Region.binds md e = true → e.on ≠ i) → oi.apart ops om = true := fun m om hm hmi hun hno => by
        refine hfree m om hm hmi ?_ hno
        by_cases hjm : j = m
        · subst hjm; exact hjun
        · rw [getD_set_ne true hjm] at hun; exact hun
      refine ⟨fun hlt => ?_, fun hge w' hw' => ?_⟩
      · have h3 := qOpIn_put hoj (hfree j oj hoj hji hjun hnot) (fun cs b => hsel i oi cs b hi) (fun cs b => hsel j oj cs b hoj) hy (h1 hlt)
        refine qOpIn_mono (fun a' h4 => ih (listed.setIfInBounds j true) a' (hcl.add hj) hfree' (ready_mono hr (Ne.symm hji)) h4.1 ?_) h3
        rw [Array.setIfInBounds_comm _ _ hji]
        exact h4.2
      · have hst : stillOp oi = true := by
          rcases waits_spec hw hoj hge hiq hi with h | h
          · exact h
          · exact (getD_both (mem_ready.1 hr).1 (reach_listed hcl 3 oj hall h)).elim
        have hyf := still_yields hst hy hw0
        have h3 := opIn_put (hnd j oj hoj) hoj (hfree j oj hoj hji hjun hnot) (fun cs b => hsel i oi cs b hi) (fun cs b => hsel j oj cs b hoj) (fun c a w => hQ c _ _ a w) hyf (h2 hge w' hw')
        refine wpOpIn_mono (fun a' w'' h4 => anyIn_first hnd hi hsel (fun c a w => hQ c _ _ a w) k (listed.setIfInBounds j true) a' w'' hfree' (ready_mono hr (Ne.symm hji)) h4.1 ?_) h3
        rw [Array.setIfInBounds_comm _ _ hji]
        exact h4.2
def setN : Nat → Nat → Array Bool → Array Bool
  | 0, _, l => l
  | m + 1, k, l => setN m (k + 1) (l.setIfInBounds k true)
def lexPre (md : Region.Mode) (ops : Array Oper) (nq : Nat) : Nat → Nat → Array Bool → Bool
  | 0, _, listed => (List.range nq).all fun j => listed.getD j false
  | m + 1, k, listed => (Region.ready md ops listed).contains k && Region.free md ops listed k && lexPre md ops nq m (k + 1) (listed.setIfInBounds k true)
theorem mixA_left (k : Nat) (listed : Array Bool) (a : Act) (hl : ∀ j, j < nq → listed.getD j false = true) (h : ∀ w, C w → wpAnyIn F n P md ops Q k listed a w) : mixA F n P md ops C nq Q k listed a := by
  cases k with
  | zero => exact h
  | succ k =>
    refine ⟨fun h0 w hw => (h w hw).1 h0, fun j hj => ⟨fun hlt => ?_, fun _ w hw => (h w hw).2 j hj⟩⟩
    exact (getD_both (mem_ready.1 hj).1 (hl j hlt)).elim
theorem mixA_lex {w0 : World} (hw0 : C w0) {s : Nat} (hnd : ∀ (i : Nat) (o : Oper), ops[i]? = some o → ∀ c, o.op ≠ .defer c) (hw : waits md ops nq = true) (hs : Region.noSelect ops = true) (hQ : ∀ c d u a w, Q (.panic c) (a.put d u) w → Q (.panic c) a w) :
    ∀ (l : List Oper) (k : Nat) (listed : Array Bool) (a : Act), Down md ops listed → (∀ j, j < l.length → l[j]? = ops[k + j]?) → k + l.length = nq →
    lexPre md ops nq l.length k listed = true → wpQuietIn F n P ops C (fun a' => ∀ w, C w → wpAnyIn F n P md ops Q s (setN l.length k listed) a' w) l a → mixA F n P md ops C nq Q (l.length + s) listed a
  | [], _, listed, a, _, _, hkn, hB, h => by
    rw [List.length_nil, Nat.zero_add]
    refine mixA_left s listed a (fun j hj => ?_) h
    exact List.all_eq_true.1 hB j (List.mem_range.2 hj)
  | o :: l, k, listed, a, hcl, hl, hkn, hB, h => by
    have h0 : ops[k]? = some o := by simpa using (hl 0 (by simp)).symm
    simp only [List.length_cons, lexPre, Bool.and_eq_true] at hB
    obtain ⟨⟨hr, hf⟩, hB'⟩ := hB
    have hst : qOpIn F n P ops C k (wpQuietIn F n P ops C (fun a' => ∀ w, C w → wpAnyIn F n P md ops Q s (setN (l.length + 1) k listed) a' w) l) a := by unfold qOpIn; simp only [h0]; exact h
    obtain ⟨v, hy, hK⟩ := yieldsQuiet_of_qOpIn h0 hst
    rw [List.length_cons, Nat.add_right_comm]
    exact mixA_first hw0 hnd hw (by simp at hkn; omega) h0 (Region.noSelect_spec hs) hQ (l.length + s) listed a hcl (Region.free_spec h0 hf) (by simpa using hr) hy
      (mixA_lex hw0 hnd hw hs hQ l (k + 1) _ _ (hcl.add (by simpa using hr)) (fun j hj => by have := hl (j + 1) (by simpa using hj); simpa [Nat.add_assoc, Nat.add_comm 1 j] using this) (by simp at hkn; omega) hB' hK)
theorem region_stores {id : Nat} {a : Act} {w : World} {l : List Oper} (nq : Nat) (hle : nq ≤ l.length) (hnd : noDefer l = true) (hm : P.follows .mixedOrders = true) (hs : Region.noSelect l.toArray = true) (hw : waits .any l.toArray nq = true)
    (hB : lexPre .any l.toArray nq nq 0 (Array.replicate l.length false) = true) (hQ : ∀ c d u a w, Q (.panic c) (a.put d u) w → Q (.panic c) a w)
    (h : wpQuietIn F n P l.toArray (fun w' => ∃ n, w' = w.drewN n) (fun a' => ∀ w', (∃ n, w' = w.drewN n) → wpAnyIn F n P .any l.toArray Q (l.length - nq) (setN nq 0 (Array.replicate l.length false)) a' w') (l.take nq) a) :
    (Code.region id l.toArray true).wpIn F n P Q a w := by
  refine wpIn_region_any hm ?_
  have hlen : (l.take nq).length = nq := by rw [List.length_take]; omega
  have hnd' : ∀ (i : Nat) (o : Oper), l.toArray[i]? = some o → ∀ c, o.op ≠ .defer c := fun i o ho => noDefer_at hnd (by simpa using List.mem_of_getElem? (by simpa using ho))
  have h1 := mixA_lex (F := F) (n := n) (C := fun w' => ∃ n, w' = w.drewN n) (md := .any) (nq := nq) (s := l.length - nq) (Q := Q) (w0 := w.drewN 0) ⟨0, rfl⟩ hnd' hw hs hQ (l.take nq) 0 (Array.replicate l.length false) a
    (fun j o _ hj => by rw [Array.getD_eq_getD_getElem?, Array.getElem?_replicate] at hj; split at hj <;> simp at hj)
    (fun j hj => by rw [List.getElem?_take, if_pos (by omega), Nat.zero_add]; simp) (by omega) (by rw [hlen]; exact hB) (by rw [hlen]; exact h)
  rw [hlen] at h1
  have h2 := mixA_any (Q := Q) hnd' _ _ _ { w with drawn := w.drawn + 1 } ⟨1, rfl⟩ h1
  rw [show nq + (l.length - nq) = l.toArray.size by simp; omega] at h2
  simpa using h2
theorem own_kept {k : IntKind} {B t : Nat} {W W' : World} {row : Option Nat} {base : Nat} {v : Value} {l : List Nat} (h : LOwn k B t W base v l) (hg : W.grownBy W' row) (hrow : ∀ r, row = some r → ∃ o : Obj, W.heap[r]? = some o ∧ o.isCells = false) : LOwn k B t W' base v l := by
  refine ⟨World.ownsRow.kept h.1 hg ?_, h.2⟩
  rcases h.1.2 with ⟨rfl, _⟩ | ⟨g, cap, cur, rfl, _, hh, _⟩
  · exact .inl rfl
  · refine .inr fun e => ?_
    obtain ⟨o, ho, hc⟩ := hrow g e.symm
    rw [hh] at ho
    cases ho
    cases hc
theorem heap_kept {W W' : World} {row : Option Nat} (hg : W.grownBy W' row) (hrow : ∀ r, row = some r → ∃ o : Obj, W.heap[r]? = some o ∧ o.isCells = false) {g : Nat} {cs : Array Value} {t : TypeId} {fr : Nat × Nat} (h : W.heap[g]? = some (.cells cs t fr)) : W'.heap[g]? = some (.cells cs t fr) :=
  (grownBy_keeps_cells hg hrow h rfl).trans h
end Go.Proofs.YtafmfnpjhhaikaaGreatDoor
namespace Go.Proofs.YtafmfnpjhhaikaaGreatDoor
open Go.RowKit Go.Shelf
attribute [local go_sem] Oper.semAt_some
theorem alloc_heap {w : World} {o : Obj} {k : Nat} (h : w.heap.size = k) : (w.alloc o).heap[k]? = some o := h ▸ heap_alloc_new w o
theorem row_block {w : World} {p : Option Addr} {n c : Nat} {l : List Nat} (h : R64 w (.slice p n c) l) (hn : l.length = n) :
    ∃ b o, (0 < n → p = some ⟨b, o, none⟩) ∧ (0 < n ∨ b = 0) ∧ ∀ j, j < n → w.cell? ⟨b, o + j, none⟩ = some (.int .u64 (limbL l j : Nat)) := by
  by_cases h0 : 0 < n
  · obtain ⟨b, o, c', he, _⟩ := h.at (limb_some (l := l) (j := 0) (by omega))
    simp only [Value.slice.injEq] at he
    obtain ⟨rfl, _, rfl⟩ := he
    refine ⟨b, o, fun _ => rfl, .inl h0, fun j hj => ?_⟩
    obtain ⟨b', o', c'', he, _, hq, _⟩ := h.at (limb_some (l := l) (j := j) (by omega))
    simp only [Value.slice.injEq, Option.some.injEq, Addr.mk.injEq, and_true] at he
    obtain ⟨⟨rfl, rfl⟩, _, _⟩ := he
    exact hq
  · exact ⟨0, 0, fun h => absurd h h0, .inr (by omega), fun j hj => absurd hj (by omega)⟩
theorem drop_set_at {l : List Nat} {i v : Nat} (h : i < l.length) : (l.set i v).drop i = v :: l.drop (i + 1) := by
  rw [List.drop_eq_getElem_cons (by simpa using h), List.getElem_set_self, drop_set_below (Nat.lt_succ_self i)]
theorem drop_at {l : List Nat} {i : Nat} (h : i < l.length) : l.drop i = limbL l i :: l.drop (i + 1) := by
  rw [List.drop_eq_getElem_cons h]
  unfold limbL
  rw [List.getElem?_eq_getElem h]
  rfl
theorem small_next {n b r R Q i : Nat} {o l : List Nat} {pre : List Nat} {B : Nat} (ho : o.length = n) (hl : l.length = n) (hi : i < n)
    (h : ∀ k, k ≤ n → pre = (downs n).take k → b * valB B (o.drop (n - k)) + r = valB B (l.drop (n - k))) (hq : Q * b + R = r * B + limbL l i) :
    ∀ k, k ≤ n → pre ++ [i] = (downs n).take k → b * valB B ((o.set i Q).drop (n - k)) + R = valB B (l.drop (n - k)) := by
  intro k hk hp
  have hlen := congrArg List.length hp
  rw [List.length_append, List.length_take, downs_len, List.length_singleton, Nat.min_eq_left hk] at hlen
  obtain ⟨m, rfl⟩ : ∃ m, k = m + 1 := ⟨k - 1, by omega⟩
  rw [downs_take (by omega)] at hp
  obtain ⟨hp1, hp2⟩ := List.append_inj' hp rfl
  have hi' : i = n - 1 - m := by simpa using hp2
  have h1 := h m (by omega) hp1
  rw [show n - (m + 1) = i by omega, drop_set_at (by omega), drop_at (by omega : i < l.length)]
  rw [show n - m = i + 1 by omega] at h1
  simp only [valB]
  exact (small_step h1.symm hq).symm
set_option maxHeartbeats 4000000 in
set_option maxRecDepth 100000 in
theorem small_any (p : Option Addr) (c b : Nat) (l : List Nat) (w : World) (h : R64 w (.slice p l.length c) l) (hl : l.length < 1000000000) (hb0 : 0 < b) (hbB : b < B64) :
    Calls Tryz.prog 161 #[.slice p l.length c, .int .u64 (b : Int)] w fun e w' => ∃ q cq, e = .returned (.tuple #[.slice q (limB B64 (valB B64 l / b)).length cq, .int .u64 ((valB B64 l % b : Nat) : Int)]) ∧
      O64 w' w.heap.size (.slice q (limB B64 (valB B64 l / b)).length cq) (limB B64 (valB B64 l / b)) ∧ Bel w w' := by
  have HR := Lib.hid h
  obtain ⟨n, hn⟩ : ∃ n, l.length = n := ⟨_, rfl⟩
  have HN := Lib.hid hn
  rw [hn] at HR hl ⊢
  obtain ⟨QV, hQV⟩ : ∃ x, valB B64 l / b = x := ⟨_, rfl⟩
  obtain ⟨RV, hRV⟩ : ∃ x, valB B64 l % b = x := ⟨_, rfl⟩
  have HQV := Lib.hid hQV
  have HRV := Lib.hid hRV
  rw [hQV, hRV]
  have hmk := fun wx => run_made n (by omega) wx
  obtain ⟨Z0, hZ0⟩ : ∃ Z, madeCells #[.int .u64 0] (n * 1) = Z := ⟨_, rfl⟩
  have HO0 := Lib.hid (fun wx => made_own wx n (by unfold maxLen; omega))
  rw [hZ0] at hmk HO0
  have HBK := Lib.hid (fun wx => backward_any p n c wx)
  clear h hn hQV hRV hZ0
  refine (callsIn_wide (n := 6)).1 ?_
  refine callsIn_of_wp_marks Tryz.func161 rfl trivial ?_ rfl
  simp only [Tryz.ntmps161, List.size_toArray, List.length_cons, List.length_nil, Nat.reduceAdd, Nat.reduceSub, Array.replicate_succ, Array.replicate_zero, List.push_toArray, List.append_toArray, List.nil_append, List.cons_append]
  rw [wpIn_wide]
  go_upto_block 0 with (first
      | (go_at_call 159; (with_reducible refine (HBK.out _).mono ?_); rintro e w4 ⟨rfl, hw4⟩; obtain rfl := hw4.symm; clear hw4))
  obtain ⟨X, hX⟩ : ∃ X, w.heap.size = X := ⟨_, rfl⟩
  obtain ⟨Y5, hY5⟩ : ∃ Y, ((((w.alloc (.cells #[.slice p n c] 22)).alloc (.cells #[.int .u64 (b : Int)] 105)).alloc (.cells Z0 105)).alloc (.cells #[.slice (some ⟨w.heap.size + 1 + 1, 0, none⟩) n n] 22)).alloc (.cells #[.int .u64 0] 105) = Y := ⟨_, rfl⟩
  rw [hY5, hX]
  refine wp_block ?_
  refine (wpIn_wide (n := 6)).1 ?_
  obtain ⟨XB, hXB⟩ : ∃ B, X + 1 = B := ⟨_, rfl⟩
  obtain ⟨G, hG⟩ : ∃ B, XB + 1 = B := ⟨_, rfl⟩
  obtain ⟨XO, hXO⟩ : ∃ B, G + 1 = B := ⟨_, rfl⟩
  obtain ⟨XR, hXR⟩ : ∃ B, XO + 1 = B := ⟨_, rfl⟩
  obtain ⟨S, hS⟩ : ∃ B, XR + 1 = B := ⟨_, rfl⟩
  rw [hXB, hG, hXO, hXR, hS]
  obtain ⟨Z, hZ⟩ : ∃ Z, Y5.alloc (.cells #[.slice p n c] 22) = Z := ⟨_, rfl⟩
  rw [hZ]
  have s0 : w.heap.size = X := hX
  have s1 : (w.alloc (.cells #[.slice p n c] 22)).heap.size = XB := by rw [World.size_alloc, s0, hXB]
  have s2 : ((w.alloc (.cells #[.slice p n c] 22)).alloc (.cells #[.int .u64 (b : Int)] 105)).heap.size = G := by rw [World.size_alloc, s1, hG]
  have s3 : (((w.alloc (.cells #[.slice p n c] 22)).alloc (.cells #[.int .u64 (b : Int)] 105)).alloc (.cells Z0 105)).heap.size = XO := by rw [World.size_alloc, s2, hXO]
  have s4 : ((((w.alloc (.cells #[.slice p n c] 22)).alloc (.cells #[.int .u64 (b : Int)] 105)).alloc (.cells Z0 105)).alloc (.cells #[.slice (some ⟨w.heap.size + 1 + 1, 0, none⟩) n n] 22)).heap.size = XR := by rw [World.size_alloc, s3, hXR]
  have hGw : w.heap.size + 1 + 1 = G := by omega
  have hY5s : Y5.heap.size = S := by rw [← hY5, World.size_alloc, s4, hS]
  have hBY : Bel w Y5 := hY5 ▸ (((((Bel.refl w).alloc _).alloc _).alloc _).alloc _).alloc _
  have hBZ : Bel w Z := hZ ▸ hBY.alloc _
  have hYZ : Bel Y5 Z := hZ ▸ (Bel.refl _).alloc _
  have hA : Z.heap[X]? = some (.cells #[.slice p n c] 22 (0, 0)) := hYZ.heap (hY5 ▸ heap_push_of (heap_push_of (heap_push_of (heap_push_of (alloc_heap s0) _) _) _) _)
  have hB : Z.heap[XB]? = some (.cells #[.int .u64 (b : Int)] 105 (0, 0)) := hYZ.heap (hY5 ▸ heap_push_of (heap_push_of (heap_push_of (alloc_heap s1) _) _) _)
  have hO : Z.heap[XO]? = some (.cells #[.slice (some ⟨G, 0, none⟩) n n] 22 (0, 0)) := hYZ.heap (by rw [← hY5, ← hGw]; exact heap_push_of (alloc_heap s3) _)
  have hR : Z.heap[XR]? = some (.cells #[.int .u64 ((0 : Nat) : Int)] 105 (0, 0)) := hYZ.heap (hY5 ▸ alloc_heap s4)
  have hSc : Z.heap[S]? = some (.cells #[.slice p n c] 22 (0, 0)) := hZ ▸ alloc_heap hY5s
  have hrow0 : O64 Z w.heap.size (.slice (some ⟨G, 0, none⟩) n n) (List.replicate n 0) := by
    have h := HO0.out ((w.alloc (.cells #[.slice p n c] 22)).alloc (.cells #[.int .u64 (b : Int)] 105))
    rw [s2] at h
    refine ((h.base (base' := w.heap.size) (by omega)).bel ?_)
    refine Bel.trans ?_ hYZ
    rw [← hY5]
    exact ((Bel.refl _).alloc _).alloc _
  have hSZ : S < Z.heap.size := heap_lt hSc
  obtain ⟨b1, o1, hp1, hbz1, hc1⟩ : ∃ b o, (0 < n → p = some ⟨b, o, none⟩) ∧ (0 < n ∨ b = 0) ∧ ∀ j, j < n → w.cell? ⟨b, o + j, none⟩ = some (.int .u64 (limbL l j : Nat)) := row_block HR.out HN.out
  have hbZ : b1 < Z.heap.size := by
    rcases hbz1 with h | h
    · exact World.block_lt_of_cell? Z _ (hBZ.cell (hc1 0 h))
    · omega
  have hbw : 0 < n → b1 < w.heap.size := fun h => World.block_lt_of_cell? w _ (hc1 0 h)
  have HLS : Hid (∀ k, k ≤ n → k = 0 → b * valB B64 ((List.replicate n 0).drop (n - k)) + 0 = valB B64 (l.drop (n - k))) := by
    intro k hk h0
    subst h0
    rw [Nat.sub_zero, List.drop_of_length_le (by simp), List.drop_of_length_le (by rw [HN.out]; exact Nat.le_refl _)]
    simp [valB]
  have hnr : w.heap.size = X ∧ X + 1 = XB ∧ X + 2 = G ∧ X + 3 = XO ∧ X + 4 = XR ∧ X + 5 = S := by omega
  refine wpIn_rangeFunc_ownG rfl (by omega) (gf := 188) (lb := #[.pointer (some ⟨S, 0, none⟩)]) rfl trivial (enters_of Tryz.func188 (by kernel_rfl) rfl)
    (back_stops 5 (by omega) S p b1 o1 n c (by omega) hp1 Z hSZ (fun h => World.block_lt_of_cell? Z _ (hBZ.cell (hc1 0 h))) (by rw [heap_cell hSc]; rfl) (fun j hj => ⟨_, hBZ.cell (hc1 j hj)⟩))
    KpB.trans (fun W' l' o' o'' hl' _ _ _ => KpB.put hSZ hbZ W' l' o'' hl') (Below.refl _ _) (fun _ => rfl)
    (fun pre W' => (∃ (o : List Nat) (r : Nat), o.length = n ∧ r < b ∧ (∀ k, k ≤ n → pre.map plN = (downs n).take k → b * valB B64 (o.drop (n - k)) + r = valB B64 (l.drop (n - k))) ∧ O64 W' w.heap.size (.slice (some ⟨G, 0, none⟩) n n) o ∧
        W'.heap[XR]? = some (.cells #[.int .u64 (r : Int)] 105 (0, 0)) ∧ W'.heap[XO]? = some (.cells #[.slice (some ⟨G, 0, none⟩) n n] 22 (0, 0)) ∧ W'.heap[XB]? = some (.cells #[.int .u64 (b : Int)] 105 (0, 0)) ∧ W'.heap[X]? = some (.cells #[.slice p n c] 22 (0, 0))) ∧ Below w.heap.size w W')
    (fun _ _ _ => False)
    (OwnFrom.and (Own.from (fun s A B row hs hg hr => by
      obtain ⟨o, r, e1, e2, e3, e4, e5, e6, e7, e8⟩ := hs
      exact ⟨o, r, e1, e2, e3, own_kept e4 hg hr, heap_kept hg hr e5, heap_kept hg hr e6, heap_kept hg hr e7, heap_kept hg hr e8⟩) _) (ownFrom_below (Nat.le_refl _) hBZ.size))
    (fun c _ _ _ _ hs _ _ => hs)
    ⟨⟨List.replicate n 0, 0, by simp, hb0, fun k hk hpre => HLS.out k hk (by have := congrArg List.length hpre; rw [List.length_take, downs_len] at this; simp at this; omega), hrow0, hR, hO, hB, hA⟩, hBZ⟩
    (fun x => { tmps := #[.slice p n c, .int .u64 (b : Int), .pointer (some ⟨X, 0, none⟩), .pointer (some ⟨XB, 0, none⟩), .slice none 0 0, .int .u64 0, .pointer (some ⟨XO, 0, none⟩), .pointer (some ⟨XR, 0, none⟩), .int .i64 (plN x : Int), .slice p n c, .int .i64 n, .slice (some ⟨G, 0, none⟩) n n, .slice p n c,
      .func (.func 188) #[] #[.pointer (some ⟨S, 0, none⟩)], .int .i64 (plN x : Int), .int .u64 x.1.2, undef, undef, undef, undef, undef, undef, undef, undef, undef, undef, undef, undef, undef, undef, undef, undef], defers := [] }) ?assign ?body ?done ?stop
  case assign =>
    intro l x W' K hK
    gi_wp2
    exact hK
  case body =>
    rintro lq pre x W' ⟨⟨o, r, e1, e2, e3, e4, e5, e6, e7, e8⟩, hBw⟩ _
    have hx := x.2
    obtain ⟨i, hi⟩ : ∃ i, plN x = i := ⟨_, rfl⟩
    have hiL : i < n := by rw [← hi]; exact hx
    have q1 := Bel.cell hBw (hc1 i hiL)
    obtain rfl := hp1 (by omega)
    rw [hi]
    have hAB : limbL l i < B64 := limb_lt b64_pos HR.out.all i
    have hT := limb_some (show i < o.length by omega)
    obtain ⟨q3, q4⟩ := own_cell e4 hT
    have g1 : W'.cell? ⟨XR, 0, none⟩ = some (.int .u64 (r : Int)) := by rw [heap_cell e5]; rfl
    have g2 : W'.frozen? ⟨XR, 0, none⟩ = false := heap_frozen e5 0
    have g3 : W'.cell? ⟨XO, 0, none⟩ = some (.slice (some ⟨G, 0, none⟩) n n) := by rw [heap_cell e6]; rfl
    have g4 : W'.cell? ⟨XB, 0, none⟩ = some (.int .u64 (b : Int)) := by rw [heap_cell e7]; rfl
    have g5 : W'.cell? ⟨X, 0, none⟩ = some (.slice (some ⟨b1, o1, none⟩) n c) := by rw [heap_cell e8]; rfl
    obtain ⟨A1, hA1⟩ : ∃ A, limbL l i = A := ⟨_, rfl⟩
    rw [hA1] at q1 hAB
    have hmx : Tryz.prog.follows .mixedOrders = true := by kernel_rfl
    have hfw : Fence.wide.fn 190 := trivial
    have hdp : 1 ≤ 6 - 1 - 1 := by omega
    have hRB := Nat.mod_lt (r * B64 + A1) hb0
    have hQB := quot_small e2 hbB hAB
    have HDM := Lib.hid (Nat.div_add_mod (r * B64 + A1) b)
    have HDC := Lib.hid (fun X => div64_call r A1 b e2 hbB hAB X)
    obtain ⟨QQ, hQQ⟩ : ∃ q, (r * B64 + A1) / b = q := ⟨_, rfl⟩
    obtain ⟨RR, hRR⟩ : ∃ q, (r * B64 + A1) % b = q := ⟨_, rfl⟩
    rw [hQQ, hRR] at HDM HDC
    rw [hQQ] at hQB
    rw [hRR] at hRB
    have HCR : Hid (∀ k X, CallsIn (Fence.wide.inRound lq) k Tryz.prog 190 #[.int .u64 (r : Int), .int .u64 (A1 : Int), .int .u64 (b : Int)] X (fun e w' => e = .returned (.tuple #[.int .u64 (QQ : Int), .int .u64 (RR : Int)]) ∧ ∃ m, w' = X.drewN m)) :=
      fun k X => CallsIn.inRound lq (callsIn_wide.2 (HDC.out X))
    have HE3 := Lib.hid e3
    clear hQQ hRR hX hXB hG hXO hXR hS e3 HDC
    gi_wp2
    (refine region_stores 13 (by simp) (by kernel_rfl) (by kernel_rfl) (by kernel_rfl) (by kernel_rfl) (by kernel_rfl) (fun _ _ _ _ _ h => h) ?_; simp only [List.take_succ_cons, List.take_zero]; (repeat (first | gi_big_quiet_step ((gi_at_call 190; exact CallsIn.quiet_of (HCR.out _ _))) | quiet_step_in ((gi_at_call 190; exact CallsIn.quiet_of (HCR.out _ _))))); refine wpQuietIn_nil ?_; intro _ hw'; obtain ⟨nq, hw''⟩ := hw'; subst hw''; refine wpAnyIn_ready (rs := [13]) (by kernel_rfl) (by simp) ?_; refine AllReadyIn.cons rfl (fun K hK => ?_) AllReadyIn.nil; go_simp; refine hK _ _ ?_; clear hK K; refine wpAnyIn_ready (rs := [14]) (by kernel_rfl) (by simp) ?_; refine AllReadyIn.cons rfl (fun K hK => ?_) AllReadyIn.nil; go_simp; refine hK _ _ ?_; clear hK K; refine wpAnyIn_done (by kernel_rfl) ?_ _)
    all_goals gi_wp2
    have hGX : w.heap.size ≤ G ∧ w.heap.size ≤ XR ∧ G ≠ XR ∧ G ≠ XO ∧ G ≠ XB ∧ G ≠ X ∧ XR ≠ XO ∧ XR ≠ XB ∧ XR ≠ X ∧ G ≠ S ∧ XR ≠ S := by omega
    obtain ⟨k1, k2, k3, k4, k5, k6, k7, k8, k9, k10, k11⟩ := hGX
    have hbn := hbw (by omega)
    have hD := (Bel.refl W').drewN nq
    obtain ⟨f1, f2⟩ := own_store (e4.bel hD) (Bel.drewN hBw nq) (Nat.le_refl _) i QQ hQB
    have f3 := (OnlyG.refl XR ((W'.drewN nq).setCell ⟨G, i, none⟩ (.int .u64 (QQ : Int)))).set 0 (.int .u64 (RR : Int)) |>.own k3 f1
    refine ⟨((keeps_drewN W' nq).trans ((KeepsOthers.setCell _ _ _).trans (KeepsOthers.setCell _ _ _))).from _, ⟨?_, fun j hj hI => ?_⟩, ⟨o.set i QQ, RR, by rw [List.length_set]; exact e1, hRB, ?_, f3, ?_, ?_, ?_, ?_⟩, ?_⟩
    · rw [World.cell?_setCell_far _ _ _ _ (by simp; omega), World.cell?_setCell_far _ _ _ _ (by simp; omega)]; rfl
    · rw [World.cell?_setCell_far _ _ _ _ (by simp; omega), World.cell?_setCell_far _ _ _ _ (by simp; omega)]; exact hI
    · rw [List.map_append, List.map_singleton, hi]
      exact small_next e1 HN.out hiL HE3.out (by rw [hA1, Nat.mul_comm]; exact HDM.out)
    · exact heap_put (heap_other (hD.heap e5) k3 _) _
    · exact heap_other (heap_other (hD.heap e6) k4 _) k7 _
    · exact heap_other (heap_other (hD.heap e7) k5 _) k8 _
    · exact heap_other (heap_other (hD.heap e8) k6 _) k9 _
    · exact Bel.set f2 (p := ⟨XR, 0, none⟩) k2 _
  case done =>
    rintro D ys W hD hys ⟨⟨o, r, e1, e2, e3, e4, e5, e6, e7, e8⟩, hBw⟩ hK
    have h3 := e3 n (Nat.le_refl _) (by rw [hys, List.take_of_length_le (by rw [downs_len]; exact Nat.le_refl _)])
    rw [Nat.sub_self, List.drop_zero, List.drop_zero] at h3
    have hdm := dm_of (n := valB B64 l) (q := valB B64 o) (r := r) (by rw [Nat.mul_comm]; exact h3.symm) e2
    rw [HQV.out, HRV.out] at hdm
    have hqo : limB B64 QV = trimL o := by rw [hdm.1]; exact lim_val b64_two e4.2
    have HT : Hid (∀ X, Bel W X → _) := fun X hX => trim_any (some ⟨G, 0, none⟩) n o X ((LOwn.row e4).form.elim fun p' ⟨c', he, _⟩ => by rw [e1]; exact (LOwn.row e4).bel hX) (by omega)
    rw [e1] at HT
    have HQO := Lib.hid hqo
    have HR2 := Lib.hid hdm.2
    obtain ⟨t1, ht1⟩ : ∃ t, trimL o = t := ⟨_, rfl⟩
    have HT1 := Lib.hid ht1
    rw [ht1] at HT
    have g1 : W.cell? ⟨XR, 0, none⟩ = some (.int .u64 (r : Int)) := by rw [heap_cell e5]; rfl
    have g3 : W.cell? ⟨XO, 0, none⟩ = some (.slice (some ⟨G, 0, none⟩) n n) := by rw [heap_cell e6]; rfl
    have HW : Hid (∀ m, Bel W (W.drewN m)) := fun m => Bel.drewN (Bel.refl _) m
    clear hdm hqo h3 e3 hX hXB hG hXO hXR hS HBK HR ht1
    go_wp2
    go_quiet ((go_at_call 157; exact Calls.quiet_of_same (HT.out _ (HW.out _))))
    go_wp2
    refine ⟨by simp, .inl ⟨_, _, rfl, run_takeDeferred (w := W.drewN nq) hK, ?_⟩⟩
    refine ⟨.tuple #[.slice (some ⟨G, 0, none⟩) t1.length n, .int .u64 (r : Int)], ?_, ⟨some ⟨G, 0, none⟩, n, ?_, ?_, ?_⟩⟩
    · simp [results, Tryz.results161, go_sem]
    · rw [HQO.out, HT1.out, HR2.out]
    · have h5 := LOwn.take (m := t1.length) (l := o) e4 (by rw [← HT1.out]; exact trim_len o)
      rw [← HT1.out, ← trim_prefix, HT1.out] at h5
      rw [HQO.out, HT1.out]
      exact own_kept (W := W.drewN nq) (row := some D) (h5.bel (HW.out nq)) (grownBy_putObj' _ D (.deferred none)) (fun r e => by cases e; exact ⟨_, hK, rfl⟩)
    · exact Below.trans (Bel.drewN hBw nq) (belowK_b (w := w) (Nat.le_refl _) (W.drewN nq) D _ _ (by omega) hK rfl rfl)
  case stop =>
    rintro D c pre W _ _ h _
    exact h.elim
end Go.Proofs.YtafmfnpjhhaikaaGreatDoor
