/-
  gessoref01: DivMod.
-/
import Derived.Test.YtafmfnpjhhaikaaGreatDoorZay
import Derived.Test.YtafmfnpjhhaikaaGreatDoorZaq
import Derived.Test.YtafmfnpjhhaikaaGreatDoorZax
import Derived.Test.YtafmfnpjhhaikaaGreatDoorZar
namespace Go.Proofs.YtafmfnpjhhaikaaGreatDoor
open Go.RowKit Go.Shelf
theorem two_limbs {n : Nat} (h : B32 ≤ n) : 2 ≤ (limB B32 n).length := Nat.lt_of_not_le fun h1 => by
  have h2 := lim_lt b32_two h1
  rw [Nat.pow_one] at h2
  omega
theorem dm_step {n k r x R : Nat} {l o : List Nat} (_ : 0 < n) (hx : l[k]? = some x) (hv : valB B32 (l.drop (k + 1)) = n * valB B32 (o.drop (k + 1)) + r) (hR : r * B32 + x = R) (hk : k < o.length) :
    valB B32 (l.drop k) = n * valB B32 ((o.set k (R / n)).drop k) + R % n := by
  rw [val_drop_cons hx, val_set_drop hk, ← hR]
  exact short_step ‹_› hv
theorem nr_lit_at (W : World) (g : Nat) (hg : W.heap.size = g) {y : Nat} (h0 : 0 < y) (hy : y < B32) : NR (W.alloc (.cells #[.int .u32 (y : Int)] 135)) (.slice (some ⟨g, 0, none⟩) 1 1) y := hg ▸ nr_lit W h0 hy
theorem nr_own {w : World} {base g K c n : Nat} (h : O32 w base (.slice (some ⟨g, 0, none⟩) K c) (limB B32 n)) (hK : (limB B32 n).length = K) : NR w (.slice (some ⟨g, 0, none⟩) K c) n := by
  subst hK
  exact ⟨_, _, rfl, h.row, .inr ⟨_, _, rfl⟩⟩
theorem nrz_own {w : World} {base g K c n : Nat} (h : O32 w base (.slice (some ⟨g, 0, none⟩) K c) (limB B32 n)) (hK : (limB B32 n).length = K) : NRZ w (.slice (some ⟨g, 0, none⟩) K c) n :=
  ⟨nr_own h hK, fun k c he => by simp only [Value.slice.injEq] at he; exact absurd he.1 (by simp)⟩
theorem lead_trim {w : World} {base g c X R RR : Nat} (h : O32 w base (.slice (some ⟨g, 0, none⟩) ((limB B32 R).length + 1) c) (X :: limB B32 R)) (hl : (limB B32 R).length < 1000000000) (hR : R * B32 + X = RR) :
    Calls Tryz.prog 118 #[.slice (some ⟨g, 0, none⟩) ((limB B32 R).length + 1) c] w (fun e w' => e = .returned (.slice (some ⟨g, 0, none⟩) (limB B32 RR).length c) ∧ w' = w) ∧
      O32 w base (.slice (some ⟨g, 0, none⟩) (limB B32 RR).length c) (limB B32 RR) := by
  have hv : valB B32 (X :: limB B32 R) = RR := by
    simp only [valB, val_lim b32_two]
    rw [← hR, Nat.mul_comm, Nat.add_comm]
  have ht : limB B32 RR = trimL (X :: limB B32 R) := by rw [← hv, lim_val b32_two h.2]
  have h2 := h.take (trim_len _)
  rw [← trim_prefix] at h2
  rw [ht]
  exact ⟨rtrim_any _ _ _ w h.row (by simp; omega), h2⟩
set_option maxRecDepth 100000 in
set_option maxHeartbeats 4000000 in
theorem rdm_many {w : World} {a b : Value} {m n : Nat} (ha : NR w a m) (hb : NR w b n) (hm : (limB B32 m).length < 800000000) (hn : B32 ≤ n) (hge : n ≤ m) :
    Calls Tryz.prog 120 #[a, b] w (Makes w fun v w' => ∃ u t, v = .agg #[u, t] ∧ NR w' u (m / n) ∧ NR w' t (m % n)) := by
  have hnl := lim_mono hge
  have hn2 := two_limbs hn
  have h0 : 0 < n := Nat.lt_of_lt_of_le (by decide) hn
  have HC0 := Lib.hid (fun X (hX : Bel w X) => mk_rcmp1 (ha.bel hX) (hb.bel hX) (by omega) (by omega))
  have hC : ¬ cmpN m n < 0 := by unfold cmpN; rw [if_neg (by omega)]; split <;> omega
  obtain ⟨C, hCe⟩ : ∃ C, cmpN m n = C := ⟨_, rfl⟩
  rw [hCe] at HC0 hC
  have hB : Bel w w := Bel.refl w
  have hlenR : ∀ r, r < n * B32 → (limB B32 r).length ≤ (limB B32 n).length + 1 := fun r hr => lim_len b32_two (by
    rw [Nat.pow_succ]
    exact Nat.lt_trans hr (Nat.mul_lt_mul_of_pos_right (lim_lt b32_two (Nat.le_refl _)) (by decide)))
  have hrB : ∀ r, r < n → r < n * B32 := fun r hr => Nat.lt_of_lt_of_le hr (Nat.le_mul_of_pos_right _ (by decide))
  have HLR : Hid (∀ r, r < n → (limB B32 r).length < 900000001) := fun r hr => by have := hlenR r (hrB r hr); omega
  have HLS : Hid (∀ r, r < n * B32 → (limB B32 r).length < 1000000000) := fun r hr => by have := hlenR r hr; omega
  have HC := Lib.hid (fun X (hX : Bel w X) v r (hv : NR X v r) (hr : r < n * B32) => mk_rcmp1 hv (hb.bel hX) (by have := hlenR r hr; omega) (by omega))
  have HGU := Lib.hid (fun X (hX : Bel w X) v r (hv : NR X v r) (hr : r < n * B32) (hle : n ≤ r) => rguess_any hv (hb.bel hX) (by have := hlenR r hr; omega) h0 hle hr)
  have HMU := Lib.hid (fun X (hX : Bel w X) v d (hv : NR X v d) (hd : d < B32) => mk_r1mul (hb.bel hX) hv (by omega) (by have := len_64 (x := d) (Nat.lt_of_lt_of_le hd (by decide)); omega))
  have HSU := Lib.hid (fun X u r v s (hu : NR X u r) (hv : NR X v s) (hr : r < n * B32) (hs : s ≤ r) => mk_r1subz hu hv (by have := hlenR r hr; omega) hs)
  obtain ⟨p1, c1, rfl, r1, -⟩ := ha
  have HV := Lib.hid (val_lim b32_two m)
  obtain ⟨l, hl'⟩ : ∃ l, limB B32 m = l := ⟨_, rfl⟩
  rw [hl'] at r1 hm hnl HV HC0 ⊢
  obtain ⟨L, hL⟩ : ∃ L, l.length = L := ⟨_, rfl⟩
  rw [hL] at r1 hm hnl HC0 ⊢
  have H := Lib.hid r1
  have HL := Lib.hid hL
  obtain ⟨p2, c2, rfl, r2, -⟩ := hb
  obtain ⟨kb, hkb⟩ : ∃ kb, (limB B32 n).length = kb := ⟨_, rfl⟩
  rw [hkb] at hnl hn2 HC0 HC HGU HMU ⊢
  have hk1 : kb ≠ 1 := by omega
  have hkb1 : ((kb : Int) == 1) = false := beq_false_of_ne (by omega)
  have hkbL : kb < 800000000 := by omega
  have H0 := Lib.hid h0
  clear r1 r2 hl' hL hkb hB hlenR hrB hn hge hCe hn2
  go_enter Tryz.func120, Tryz.ntmps120
  go_upto_region 1 with fail
  obtain ⟨hXR, hbw⟩ := boxes1 w (.cells #[.slice none 0 0, .slice none 0 0] 157)
  obtain ⟨W, hW⟩ : ∃ W, w.alloc (.cells #[.slice none 0 0, .slice none 0 0] 157) = W := ⟨_, rfl⟩
  rw [hW] at hXR hbw ⊢
  obtain ⟨XR, eXR⟩ : ∃ X, w.heap.size = X := ⟨_, rfl⟩
  rw [eXR]
  rw [eXR] at hXR
  have HXR := Lib.hid hXR
  have HBW := Lib.hid hbw
  have HGEXR : Hid (w.heap.size ≤ XR) := by unfold Hid; omega
  clear hW hbw hXR eXR
  have HMK := Lib.hid (fun wx => run_made32 L (by omega) wx)
  have hmk := HMK.out
  obtain ⟨Z, hZ⟩ : ∃ Z, madeCells #[.int .u32 0] (L * 1) = Z := ⟨_, rfl⟩
  rw [hZ] at hmk
  have HZ := Lib.hid hZ
  clear HMK hZ
  go_wp2_with (go_at_call 167; (with_reducible refine (HC0.out _ HBW.out).mono ?_); rintro e w2 ⟨v2, rfl, hb2, rfl⟩; have HB2 := Lib.hid hb2; clear hb2; obtain ⟨G, hG⟩ : ∃ G, w2.heap.size = G := ⟨_, rfl⟩; have HG := Lib.hid hG)
  have HO0 := Lib.hid (made_own32 w2 L (by unfold maxLen; omega))
  rw [HZ.out, HG.out] at HO0
  have HGW : Hid (W.heap.size ≤ G) := by unfold Hid; rw [← HG.out]; exact HB2.out.size
  have HGB : Hid (W.heap.size ≤ w2.heap.size) := HB2.out.size
  go_loopg [6, 7] L (fun gf s6 s7 wx => ∃ (k R : Nat) (o : List Nat), s7 = .int .i64 ((k : Int) - 1) ∧ NRZ wx s6 R ∧ R < n ∧ k ≤ L ∧ k ≤ gf ∧ o.length = L ∧ O32 wx G (.slice (some ⟨G, 0, none⟩) L L) o ∧ (∀ j, j < k → limbL o j = 0) ∧ valB B32 (l.drop k) = n * valB B32 (o.drop k) + R ∧ Bel W wx)
  case atStart => exact ⟨L, 0, List.replicate L 0, by go_num, nrz_nil _, H0.out, Nat.le_refl _, Nat.le_refl _, by simp, HO0.out, fun j _ => limb_zeros _ _, by rw [List.drop_of_length_le (by rw [HL.out]; exact Nat.le_refl _), List.drop_of_length_le (by simp)]; simp [valB], HB2.out.alloc _⟩
  case round =>
    obtain ⟨k, R, o, rfl, hnz, hR, hk, hkg, ho, hown, hz, hval, hbl⟩ := hrel
    have HNZ := Lib.hid hnz
    have HOWN := Lib.hid hown
    have HVAL := Lib.hid hval
    have HB := Lib.hid hbl
    have HO := Lib.hid ho
    have HZE := Lib.hid hz
    have HRN := Lib.hid hR
    clear hnz hown hval hbl ho hz hR
    cases k with
    | zero =>
      have hv : m = n * valB B32 o + R := by rw [← HV.out]; exact HVAL.out
      have e1 : m / n = valB B32 o := by rw [hv, Nat.mul_add_div H0.out, Nat.div_eq_of_lt HRN.out, Nat.add_zero]
      have e2 : m % n = R := by rw [hv, Nat.mul_add_mod, Nat.mod_eq_of_lt HRN.out]
      have htr : limB B32 (valB B32 o) = trimL o := lim_val b32_two HOWN.out.2
      have hown' := HOWN.out
      rw [← HO.out] at hown'
      have hown2 := hown'.take (trim_len o)
      rw [← trim_prefix, ← htr] at hown2
      have HT : Hid (Calls Tryz.prog 118 #[.slice (some ⟨G, 0, none⟩) L L] wr fun e w' => e = .returned (.slice (some ⟨G, 0, none⟩) (limB B32 (valB B32 o)).length L) ∧ w' = wr) := by
        have := rtrim_any (some ⟨G, 0, none⟩) L o wr (by have := HOWN.out.row; rw [← HO.out] at this ⊢; exact this) (by have := HO.out; omega)
        rw [HO.out, ← htr] at this
        exact this
      have HNQ : Hid (NR wr (.slice (some ⟨G, 0, none⟩) (limB B32 (valB B32 o)).length L) (valB B32 o)) := by
        rw [HO.out] at hown2
        exact ⟨_, _, rfl, hown2.row, .inr ⟨_, _, rfl⟩⟩
      obtain ⟨Q, hQ⟩ : ∃ Q, valB B32 o = Q := ⟨_, rfl⟩
      rw [hQ] at HT HNQ e1
      have HE1 := Lib.hid e1
      have HE2 := Lib.hid e2
      obtain ⟨K, hK⟩ : ∃ K, (limB B32 Q).length = K := ⟨_, rfl⟩
      rw [hK] at HT HNQ
      have HNR := Lib.hid HNZ.out.1
      obtain ⟨p5, c5, k5, rfl, -⟩ := HNR.out.slice
      clear hv e1 e2 htr hown' hown2 hQ hK HVAL HV hmk HO0
      have hhXR := (HB.out).heap HXR.out; have HHXR := Lib.hid hhXR; have dXR0 : wr.cell? ⟨XR, 0, none⟩ = some (.slice none 0 0) := (heap_cell hhXR 0).trans rfl; have fXR0 : wr.frozen? ⟨XR, 0, none⟩ = false := heap_frozen hhXR 0; have dXR1 : wr.cell? ⟨XR, 1, none⟩ = some (.slice none 0 0) := (heap_cell hhXR 1).trans rfl; have fXR1 : wr.frozen? ⟨XR, 1, none⟩ = false := heap_frozen hhXR 1; clear hhXR
      go_wp2_with (go_at_call 118; (with_reducible refine HT.out.mono ?_); rintro e w4 ⟨rfl, hw4⟩; obtain rfl := hw4.symm; clear HT)
      obtain ⟨kb, kp, kh⟩ := finAll (vs := [.slice (some ⟨G, 0, none⟩) K L, .slice p5 k5 c5]) (HBW.out.trans HB.out) HHXR.out rfl HGEXR.out (Φ := fun W2 => ∃ u t, Value.agg #[.slice (some ⟨G, 0, none⟩) K L, .slice p5 k5 c5] = .agg #[u, t] ∧ NR W2 u (m / n) ∧ NR W2 t (m % n)) (fun W2 ho => ⟨_, _, rfl, by rw [HE1.out]; exact HNQ.out.only ho HHXR.out (noInt_two32 _ _ _ _ _ _), by rw [HE2.out]; exact HNR.out.only ho HHXR.out (noInt_two32 _ _ _ _ _ _)⟩)
      have kk0 : (setAll wr XR 0 [.slice (some ⟨G, 0, none⟩) K L, .slice p5 k5 c5]).cell? ⟨XR, 0, none⟩ = some (.slice (some ⟨G, 0, none⟩) K L) := (heap_cell kh 0).trans rfl
      have kk1 : (setAll wr XR 0 [.slice (some ⟨G, 0, none⟩) K L, .slice p5 k5 c5]).cell? ⟨XR, 1, none⟩ = some (.slice p5 k5 c5) := (heap_cell kh 1).trans rfl
      simp only [setAll] at kb kp kk0 kk1
      exact bodyPost_ret (v := .agg #[.slice (some ⟨G, 0, none⟩) K L, .slice p5 k5 c5]) (by simp [results, Tryz.results120, go_sem, kk0, kk1]) rfl ⟨_, rfl, kb, kp⟩
    | succ k =>
      obtain ⟨gk', rfl⟩ : ∃ g, gk = g + 1 := ⟨gk - 1, by omega⟩
      obtain ⟨x, hx⟩ : ∃ x, l[k]? = some x := ⟨_, List.getElem?_eq_getElem (by have := HL.out; omega)⟩
      have hR := H.out.bel (HBW.out.trans HB.out)
      rw [← HL.out] at hR
      obtain ⟨b1, o1, e1, he1, hc1, q1, hxb⟩ := hR.at hx
      rw [HL.out] at he1 hc1
      simp only [Value.slice.injEq] at he1
      obtain ⟨rfl, _, rfl⟩ := he1
      have hxB : x < 4294967296 := hxb
      have HX := Lib.hid hx
      obtain ⟨RR, hRR⟩ : ∃ RR, R * B32 + x = RR := ⟨_, rfl⟩
      have HRR := Lib.hid hRR
      have HRB : Hid (RR < n * B32) := by
        unfold Hid
        rw [← hRR]
        calc R * B32 + x < R * B32 + B32 := Nat.add_lt_add_left hxb _
          _ = (R + 1) * B32 := by rw [Nat.add_mul, Nat.one_mul]
          _ ≤ n * B32 := Nat.mul_le_mul_right _ HRN.out
      have HLT := Lib.hid (fun g c w3 (h : O32 w3 wr.heap.size (.slice (some ⟨g, 0, none⟩) ((limB B32 R).length + 1) c) (x :: limB B32 R)) => lead_trim h (by have := HLR.out R HRN.out; omega) hRR)
      have HSTEP := Lib.hid (dm_step (o := o) H0.out hx HVAL.out hRR (by rw [HO.out]; omega))
      have HLN := Lib.hid (HLR.out R HRN.out)
      have HXB := Lib.hid hxb
      obtain ⟨K0, hK0⟩ : ∃ K, (limB B32 R).length = K := ⟨_, rfl⟩
      have HK0 := Lib.hid hK0
      obtain ⟨K, hK⟩ : ∃ K, (limB B32 RR).length = K := ⟨_, rfl⟩
      have HK := Lib.hid hK
      rw [hK0, hK] at HLT
      have ek : ((k + 1 : Nat) : Int) - 1 = (k : Int) := by omega
      have hkn : k < L := by omega
      rw [ek]
      clear hx hR hxb hRR hK0 hK ek
      by_cases hlt : RR < n
      · have HC1 := Lib.hid (cmpN_lt hlt)
        have HLTN := Lib.hid hlt
        clear hlt
        go_wp2_with (first
          | (at_builtin; (refine wpList_lead32 (W := wr) (w0 := wr) rfl (.tmp 37) (.tmp 38) rfl rfl _ rfl x R HXB.out HNZ.out (by have := HLN.out; omega) (Bel.refl wr) ?_); intro g3 c3 w3 ho3 hb3; rw [HK0.out] at ho3 ⊢; obtain ⟨ht3, hn3⟩ := HLT.out g3 c3 w3 ho3; have HT3 := Lib.hid ht3; have HN3 := Lib.hid hn3; have HB3 := Lib.hid hb3; clear ho3 ht3 hn3 hb3)
          | (go_at_call 118; (with_reducible refine HT3.out.mono ?_); rintro e w4 ⟨rfl, hw4⟩; obtain rfl := hw4.symm; clear HT3)
          | (go_at_call 167; (with_reducible refine (HC.out _ (HBW.out.trans (HB.out.trans HB3.out)) _ RR (nr_own HN3.out HK.out) HRB.out).mono ?_); rintro e w5 ⟨v5, rfl, hb5, hv5⟩; rw [HC1.out] at hv5; subst hv5; have HN5 := Lib.hid (HN3.out.bel hb5); have HB5 := Lib.hid (HB3.out.trans hb5); clear hb5))
        go_roundg gk'
        case measure => omega
        case rel =>
          have hd := Nat.div_eq_of_lt HLTN.out
          have hmo := Nat.mod_eq_of_lt HLTN.out
          have h1 := HSTEP.out
          rw [hd, hmo] at h1
          have ho0 : o[k]? = some 0 := by rw [limb_some (show k < o.length by rw [HO.out]; omega), HZE.out k (by omega)]
          have hset : o.set k 0 = o := by
            obtain ⟨hk1, hk2⟩ := List.getElem?_eq_some_iff.1 ho0
            rw [← hk2, List.set_getElem_self]
          rw [hset] at h1
          exact ⟨k, RR, o, by go_num, nrz_own HN5.out HK.out, HLTN.out, by omega, by omega, HO.out, HOWN.out.bel HB5.out, fun j hj => HZE.out j (by omega), h1, HB.out.trans HB5.out⟩
      · have hge : n ≤ RR := by omega
        have HGE := Lib.hid hge
        have hcm : ¬ cmpN RR n < 0 := by unfold cmpN; rw [if_neg (by omega)]; split <;> omega
        obtain ⟨C1, hC1⟩ : ∃ C, cmpN RR n = C := ⟨_, rfl⟩
        rw [hC1] at hcm
        have HC1 := Lib.hid hC1
        have hd0 : 0 < RR / n := Nat.div_pos hge H0.out
        have hdB : RR / n < B32 := by rw [Nat.div_lt_iff_lt_mul H0.out, Nat.mul_comm]; exact HRB.out
        have hsub : RR - n * (RR / n) = RR % n := by
          have := Nat.div_add_mod RR n
          omega
        have hsle : n * (RR / n) ≤ RR := Nat.mul_div_le _ _
        have HML : Hid (RR % n < n) := Nat.mod_lt _ H0.out
        obtain ⟨D, hD⟩ : ∃ D, RR / n = D := ⟨_, rfl⟩
        have HGU1 := Lib.hid (fun X hX v hv => HGU.out X hX v RR hv HRB.out hge)
        rw [hD] at hd0 hdB hsub hsle HSTEP HGU1
        have hdB' : D < 4294967296 := hdB
        have HDB := Lib.hid hdB
        have HD0 := Lib.hid hd0
        have HSB := Lib.hid hsub
        have HSL := Lib.hid hsle
        obtain ⟨T, hT⟩ : ∃ T, o[k]? = some T := ⟨_, List.getElem?_eq_getElem (by have := HO.out; omega)⟩
        have HTT := Lib.hid hT
        have hGr := (HOWN.out.1.lt G rfl).2
        have HGR := Lib.hid hGr
        clear hge hC1 hD hlt hd0 hdB hsub hsle hT hGr
        go_wp2_with (first
          | (at_builtin; (refine wpList_lead32 (W := wr) (w0 := wr) rfl (.tmp 37) (.tmp 38) rfl rfl _ rfl x R HXB.out HNZ.out (by have := HLN.out; omega) (Bel.refl wr) ?_); intro g3 c3 w3 ho3 hb3; rw [HK0.out] at ho3 ⊢; obtain ⟨ht3, hn3⟩ := HLT.out g3 c3 w3 ho3; have HT3 := Lib.hid ht3; have HN3 := Lib.hid hn3; have HB3 := Lib.hid hb3; clear ho3 ht3 hn3 hb3)
          | (go_at_call 118; (with_reducible refine HT3.out.mono ?_); rintro e w4 ⟨rfl, hw4⟩; obtain rfl := hw4.symm; clear HT3)
          | (go_at_call 167; (with_reducible refine (HC.out _ (HBW.out.trans (HB.out.trans HB3.out)) _ RR (nr_own HN3.out HK.out) HRB.out).mono ?_); rintro e w5 ⟨v5, rfl, hb5, hv5⟩; rw [HC1.out] at hv5; subst hv5; have HN5 := Lib.hid (HN3.out.bel hb5); have HB5 := Lib.hid (HB3.out.trans hb5); clear hb5)
          | (go_at_call 169; (with_reducible refine (HGU1.out _ (HBW.out.trans (HB.out.trans HB5.out)) _ (nr_own HN5.out HK.out)).mono ?_); rintro e w6 ⟨v6, rfl, hb6, hv6⟩; subst hv6; have HN6 := Lib.hid (HN5.out.bel hb6); have HB6 := Lib.hid (HB5.out.trans hb6); clear hb6; obtain ⟨z3, z4⟩ := own_cell32 (HOWN.out.bel HB6.out) HTT.out; have HS := Lib.hid (own_store32 (HOWN.out.bel HB6.out) (HB.out.trans HB6.out) HGW.out k D HDB.out))
          | (go_at_call 131; (with_reducible refine (HMU.out _ (HBW.out.trans (HS.out.2.alloc _)) _ D (nr_lit_at _ _ (by simp [World.setCell]) HD0.out HDB.out) HDB.out).mono ?_); rintro e w7 ⟨v7, rfl, hb7, hv7⟩; have HV7 := Lib.hid hv7; have HN7 := Lib.hid (((HN6.out.set_below (p := ⟨G, k, none⟩) HGR.out (.int .u32 (D : Int))).bel ((Bel.refl _).alloc _)).bel hb7); have HQ7 := Lib.hid ((HS.out.1.bel ((Bel.refl _).alloc _)).bel hb7); have HB7 := Lib.hid ((HS.out.2.alloc _).trans hb7); clear hb7 hv7)
          | (go_at_call 170; (with_reducible refine (HSU.out _ _ RR _ _ (nr_own HN7.out HK.out) HV7.out HRB.out HSL.out).mono ?_); rintro e w8 ⟨v8, rfl, hb8, hv8⟩; have HV8 := Lib.hid hv8; have HQ8 := Lib.hid (HQ7.out.bel hb8); have HB8 := Lib.hid (HB7.out.trans hb8); clear hb8 hv8))
        go_roundg gk'
        case measure => omega
        case rel =>
          have h1 := HSTEP.out
          rw [← HSB.out] at h1
          have h2 := HML.out
          rw [← HSB.out] at h2
          exact ⟨k, RR - n * D, o.set k D, by go_num, HV8.out, h2, by omega, by omega, by rw [List.length_set]; exact HO.out, HQ8.out, fun j hj => by rw [limb_set (by omega)]; exact HZE.out j (by omega), h1, HB8.out⟩
set_option maxRecDepth 100000 in
set_option maxHeartbeats 2000000 in
theorem rdm_less {w : World} {a b : Value} {m n : Nat} (ha : NR w a m) (hb : NR w b n) (hm : (limB B32 m).length < 1000000000) (hn : (limB B32 n).length < 1000000000) (hlt : m < n) :
    Calls Tryz.prog 120 #[a, b] w (Makes w fun v w' => ∃ u t, v = .agg #[u, t] ∧ NR w' u (m / n) ∧ NR w' t (m % n)) := by
  have HC := Lib.hid (fun X (hX : Bel w X) => mk_rcmp1 (ha.bel hX) (hb.bel hX) hm hn)
  have HA := Lib.hid ha
  obtain ⟨p1, c1, k1, rfl, -⟩ := ha.slice
  obtain ⟨p2, c2, k2, rfl, -⟩ := hb.slice
  rw [cmpN_lt hlt] at HC
  have HE1 := Lib.hid (Nat.div_eq_of_lt hlt)
  have HE2 := Lib.hid (Nat.mod_eq_of_lt hlt)
  clear ha hb hm hn hlt
  go_enter Tryz.func120, Tryz.ntmps120
  go_upto_region 1 with fail
  obtain ⟨hXR, hbw⟩ := boxes1 w (.cells #[.slice none 0 0, .slice none 0 0] 157)
  obtain ⟨W, hW⟩ : ∃ W, w.alloc (.cells #[.slice none 0 0, .slice none 0 0] 157) = W := ⟨_, rfl⟩
  rw [hW] at hXR hbw ⊢
  obtain ⟨XR, eXR⟩ : ∃ X, w.heap.size = X := ⟨_, rfl⟩
  rw [eXR]
  rw [eXR] at hXR
  have HXR := Lib.hid hXR
  have HBW := Lib.hid hbw
  have HGEXR : Hid (w.heap.size ≤ XR) := by unfold Hid; omega
  clear hW hbw hXR eXR
  go_wp2_with (go_at_call 167; (with_reducible refine (HC.out _ HBW.out).mono ?_); rintro e w2 ⟨v2, rfl, hb2, rfl⟩; have HB2 := Lib.hid hb2; have hhXR := (hb2).heap HXR.out; have HHXR := Lib.hid hhXR; have dXR0 : w2.cell? ⟨XR, 0, none⟩ = some (.slice none 0 0) := (heap_cell hhXR 0).trans rfl; have fXR0 : w2.frozen? ⟨XR, 0, none⟩ = false := heap_frozen hhXR 0; have dXR1 : w2.cell? ⟨XR, 1, none⟩ = some (.slice none 0 0) := (heap_cell hhXR 1).trans rfl; have fXR1 : w2.frozen? ⟨XR, 1, none⟩ = false := heap_frozen hhXR 1; clear hhXR; clear hb2)
  obtain ⟨kb, kp, kh⟩ := finAll (vs := [.slice none 0 0, .slice p1 k1 c1]) (HBW.out.trans HB2.out) HHXR.out rfl HGEXR.out (Φ := fun W2 => ∃ u t, Value.agg #[.slice none 0 0, .slice p1 k1 c1] = .agg #[u, t] ∧ NR W2 u (m / n) ∧ NR W2 t (m % n)) (fun W2 ho => ⟨_, _, rfl, by rw [HE1.out]; exact nr_nil _, by rw [HE2.out]; exact (HA.out.bel (HBW.out.trans HB2.out)).only ho HHXR.out (noInt_two32 _ _ _ _ _ _)⟩)
  have kk0 : (setAll w2 XR 0 [.slice none 0 0, .slice p1 k1 c1]).cell? ⟨XR, 0, none⟩ = some (.slice none 0 0) := (heap_cell kh 0).trans rfl
  have kk1 : (setAll w2 XR 0 [.slice none 0 0, .slice p1 k1 c1]).cell? ⟨XR, 1, none⟩ = some (.slice p1 k1 c1) := (heap_cell kh 1).trans rfl
  simp only [setAll] at kb kp kk0 kk1
  exact bodyPost_ret (v := .agg #[.slice none 0 0, .slice p1 k1 c1]) (by simp [results, Tryz.results120, go_sem, kk0, kk1]) rfl ⟨_, rfl, kb, kp⟩
theorem rdm_any {w : World} {a b : Value} {m n : Nat} (ha : NR w a m) (hb : NR w b n) (hm : (limB B32 m).length < 800000000) (hn : (limB B32 n).length < 800000000) (h0 : 0 < n) :
    Calls Tryz.prog 120 #[a, b] w (Makes w fun v w' => ∃ u t, v = .agg #[u, t] ∧ NR w' u (m / n) ∧ NR w' t (m % n)) := by
  by_cases hlt : m < n
  · exact rdm_less ha hb (by omega) (by omega) hlt
  · by_cases h1 : n < B32
    · exact rdm_one ha hb (by omega) h0 h1
    · exact rdm_many ha hb hm (by omega) (by omega)
set_option maxRecDepth 100000 in
set_option maxHeartbeats 2000000 in
theorem rgcd_any {w : World} {a b : Value} {m n : Nat} (ha : NR w a m) (hb : NR w b n) (hm : (limB B32 m).length < 800000000) (hn : (limB B32 n).length < 800000000) :
    Calls Tryz.prog 119 #[a, b] w (Makes w fun v w' => NR w' v (Nat.gcd m n)) := by
  have HA := Lib.hid ha
  have HB0 := Lib.hid hb
  obtain ⟨g, hg⟩ : ∃ g, Nat.gcd m n = g := ⟨_, rfl⟩
  have HG := Lib.hid hg
  rw [hg]
  obtain ⟨p1, c1, k1, rfl, -⟩ := ha.slice
  obtain ⟨p2, c2, k2, rfl, -⟩ := hb.slice
  clear ha hb hg
  go_enter Tryz.func119, Tryz.ntmps119
  go_wp2
  go_loopg [0, 1] (n + 1) (fun gf s0 s1 wx => ∃ (m' n' : Nat), NR wx s0 m' ∧ NR wx s1 n' ∧ Nat.gcd m' n' = g ∧ n' < gf ∧ (limB B32 m').length < 800000000 ∧ (limB B32 n').length < 800000000 ∧ Bel w wx)
  case atStart => exact ⟨m, n, HA.out, HB0.out, HG.out, by omega, hm, hn, Bel.refl w⟩
  case round =>
    obtain ⟨m', n', h0, h1, hgc, hng, hml, hnl, hbw⟩ := hrel
    obtain ⟨q1, d1, j1, rfl, -⟩ := h0.slice
    obtain ⟨q2, d2, j2, rfl, hj2⟩ := h1.slice
    have HN0 := Lib.hid h0
    have HN1 := Lib.hid h1
    have HGC := Lib.hid hgc
    have HBW := Lib.hid hbw
    by_cases hz : n' = 0
    · have hj0 : j2 = 0 := hj2.2 hz
      subst hj0
      have HZ := Lib.hid hz
      clear h0 h1 hgc hbw hj2 hz
      go_wp2
      go_ret
      refine ⟨_, rfl, HBW.out, ?_⟩
      have h := HN0.out
      rw [← HGC.out, HZ.out, Nat.gcd_zero_right]
      exact h
    · obtain ⟨gk', rfl⟩ : ∃ g, gk = g + 1 := ⟨gk - 1, by omega⟩
      have hjp : 0 < j2 := Nat.pos_of_ne_zero fun h => hz (hj2.1 h)
      have hfr := run_fieldR
      have HD := Lib.hid (rdm_any h0 h1 hml hnl (Nat.pos_of_ne_zero hz))
      have hlt : m' % n' < n' := Nat.mod_lt _ (Nat.pos_of_ne_zero hz)
      have hl2 := lim_mono (Nat.le_of_lt hlt)
      have HG2 : Hid (Nat.gcd n' (m' % n') = g) := by unfold Hid; rw [← HGC.out, Nat.gcd_comm, ← Nat.gcd_rec, Nat.gcd_comm]
      clear h0 h1 hgc hbw hj2 hz
      go_wp2_with (go_at_call 120; (with_reducible refine HD.out.mono ?_); rintro e w3 ⟨v3, rfl, hb3, u3, t3, rfl, hu3, ht3⟩; obtain ⟨p5, c5, k5, rfl, -⟩ := hu3.slice; obtain ⟨p6, c6, k6, rfl, -⟩ := ht3.slice; have HT := Lib.hid ht3; have HB3 := Lib.hid hb3; clear hb3 hu3 ht3)
      go_roundg gk'
      case measure => omega
      case rel => exact ⟨n', m' % n', HN1.out.bel HB3.out, HT.out, HG2.out, by omega, by omega, by omega, HBW.out.trans HB3.out⟩
theorem gcd_len_r {m n : Nat} (h : n ≠ 0) : (limB B32 (Nat.gcd m n)).length ≤ (limB B32 n).length := lim_mono (Nat.gcd_le_right _ (Nat.pos_of_ne_zero h))
theorem mk_r3made_any {w : World} {a b : Value} {x : Int} {n : Nat} (ha : RZ w a x) (hb : NR w b n) (hn0 : n ≠ 0) (hx : (limB B32 x.natAbs).length < 800000000) (hn : (limB B32 n).length < 800000000) :
    Calls Tryz.prog 75 #[a, b] w (Makes w fun v w' => RQ w' v (mkRat x n)) := by
  refine mk_r3made_gen ha hb hn0 (fun X u v hu hv => rgcd_any hu hv hx hn) (fun X u v m hm hu hv => ?_)
  have hl := gcd_len_r (m := x.natAbs) hn0
  refine rdm_any hu hv ?_ (by omega) (Nat.gcd_pos_of_pos_right _ (Nat.pos_of_ne_zero hn0))
  rcases hm with rfl | rfl
  · exact hx
  · exact hn
def rnU : U → Option (Nat × Nat)
  | .rn n k => some (n, k)
  | .lit (.slice none 0 0) => some (0, 0)
  | _ => none
def asRz : V → Option (Bool × Nat × Nat)
  | [.rz x k] => some (decide (x < 0), x.natAbs, k)
  | [u, x] => match boolU u, rnU x with | some s, some (n, k) => some (s, n, k) | _, _ => none
  | _ => none
theorem len_k {n k : Nat} (h : n < B64 ^ k) : (limB B32 n).length ≤ 2 * k := lim_len b32_two (by rw [Nat.pow_mul]; exact h)
section
variable {C : Ctx} {w : World}
theorem rnU_rel {u : U} {n k : Nat} {cs : List Value} (h : rnU u = some (n, k)) (hr : u.rel C w cs) : ∃ v, cs = [v] ∧ NR w v n ∧ n < B64 ^ k := by
  unfold rnU at h
  split at h
  · cases h; exact hr
  · cases h
    simp only [U.rel] at hr
    exact ⟨_, hr, nr_nil w, by decide⟩
  · cases h
theorem rnU_has {u : U} {n k : Nat} {v : Value} (h : rnU u = some (n, k)) (hr : V.has C w [u] v) : NR w v n ∧ n < B64 ^ k := by
  obtain ⟨cs, ⟨c1, c2, rfl, h1, h2⟩, rfl⟩ := hr
  simp only [V.rel] at h2
  subst h2
  obtain ⟨v, rfl, h3⟩ := rnU_rel h h1
  exact h3
theorem rn_has {n k : Nat} {v : Value} (h : NR w v n) (hk : n < B64 ^ k) : T.rel C w (.one [.rn n k]) v := ⟨[v], ⟨[v], [], rfl, ⟨v, rfl, h, hk⟩, rfl⟩, rfl⟩
theorem rz_has {x : Int} {k : Nat} {v : Value} (h : RZ w v x) (hk : x.natAbs < B64 ^ k) : T.rel C w (.one [.rz x k]) v := by
  obtain ⟨u, rfl, h1⟩ := h
  exact ⟨[_, _], ⟨[_, _], [], rfl, ⟨_, _, rfl, ⟨u, rfl, h1⟩, hk⟩, rfl⟩, rfl⟩
theorem rq_has {q : Rat} {k : Nat} {v : Value} (h : RQ w v q) (hk : Sz k q) : T.rel C w (.one [.rq q k]) v := by
  obtain ⟨u, d, rfl, h1, h2⟩ := h
  exact ⟨[_, _, _], ⟨[_, _, _], [], rfl, ⟨_, _, _, rfl, ⟨u, d, rfl, h1, h2⟩, hk⟩, rfl⟩, rfl⟩
theorem asRz_has {x : V} {s : Bool} {n k : Nat} {v : Value} (h : asRz x = some (s, n, k)) (hr : x.has C w v) : V.has C w [.sym (.bool s), .rn n k] v := by
  obtain ⟨cs, hr, rfl⟩ := hr
  unfold asRz at h
  split at h
  · cases h
    obtain ⟨c1, c2, rfl, ⟨a, b, rfl, ⟨u, he, h1⟩, h2⟩, h3⟩ := hr
    simp only [V.rel] at h3
    subst h3
    simp only [Value.agg.injEq, Array.mk.injEq, List.cons.injEq, and_true] at he
    obtain ⟨rfl, rfl⟩ := he
    exact ⟨[_, _], ⟨[_], [_], rfl, rfl, [_], [], rfl, ⟨_, rfl, h1, h2⟩, rfl⟩, rfl⟩
  · rename_i u y
    split at h
    · rename_i s n k hs hn
      cases h
      obtain ⟨c1, c2, rfl, h1, c3, c4, rfl, h2, h3⟩ := hr
      simp only [V.rel] at h3
      subst h3
      obtain rfl := boolU_rel hs h1
      obtain ⟨v2, rfl, h5, h6⟩ := rnU_rel hn h2
      exact ⟨[_, _], ⟨[_], [_], rfl, rfl, [_], [], rfl, ⟨_, rfl, h5, h6⟩, rfl⟩, rfl⟩
    · cases h
  · cases h
end
/-! ### gessoref01 -/
def conN2 (F : Nat → Nat → Nat → Nat → Out T) : Con
  | [[a], [b]] => match rnU a, rnU b with | some (n, i), some (m, j) => F n i m j | _, _ => .fail
  | _ => .fail
theorem n2_ok {P : Program} {f : FuncId} {F : Nat → Nat → Nat → Nat → Out T} (he : ∀ vs w, (callFunc f vs).run P w = .ok (.enter f vs) w)
    (h : ∀ n i m j t, (F n i m j).gets t → ∀ C w a b, NR w a n → n < B64 ^ i → NR w b m → m < B64 ^ j → Calls P f #[a, b] w (Makes w fun v w' => T.rel C w' t v)) : OkCon P f (conN2 F) := ⟨he, fun args t hg C w vs _ ha => by
  unfold conN2 at hg
  split at hg
  · rename_i x y
    split at hg
    · rename_i n i m j hn hm
      obtain ⟨a, b, rfl, h1, h2⟩ := all2 ha
      obtain ⟨h3, h4⟩ := rnU_has hn h1
      obtain ⟨h5, h6⟩ := rnU_has hm h2
      exact h n i m j t hg C w a b h3 h4 h5 h6
    · exact hg.elim
  · exact hg.elim⟩
theorem add_pow {n m i j : Nat} (h1 : n < B64 ^ i) (h2 : m < B64 ^ j) : n + m < B64 ^ (i.max j + 1) := by
  have h3 := Nat.lt_of_lt_of_le h1 (Nat.pow_le_pow_right b64_pos (Nat.le_max_left i j))
  have h4 := Nat.lt_of_lt_of_le h2 (Nat.pow_le_pow_right b64_pos (Nat.le_max_right i j))
  have h5 : B64 ^ (i.max j) * 2 ≤ B64 ^ (i.max j) * B64 := Nat.mul_le_mul_left _ (by decide)
  rw [Nat.pow_succ]
  simp only [Nat.max_def, Nat.max] at *
  omega
def cN1add (n i m j : Nat) : Out T := .chk ((i + j).blt LimK) (.leaf (.one [.rn (n + m) (i.max j + 1)]))
def cN1sub (n i m j : Nat) : Out T := .chk ((i + j).blt LimK) (.need (m ≤ n) (.leaf (.one [.rn (n - m) (i.max j + 1)])))
def cN1mul (n i m j : Nat) : Out T := .chk ((i + j).blt LimK) (.leaf (.one [.rn (n * m) (i + j)]))
def cN1cmp (n i m j : Nat) : Out T := .chk ((i + j).blt LimK) (.leaf (.one [.sym (.int .i64 (cmpN n m))]))
theorem ok_r1add : OkCon Tryz.prog 171 (conN2 cN1add) := n2_ok (fun vs w => Go.MuLone.run_callFunc_enter Tryz.func171 rfl rfl vs w) fun n i m j t h C w a b ha hi hb hj => by
  obtain ⟨h1, rfl⟩ := h
  have h1 : (_ + 1 ≤ 100000000) := Nat.ble_eq.mp h1
  have := len_k hi
  have := len_k hj
  exact (mk_r1add ha hb (by omega) (by omega)).mono fun _ _ h => h.imp fun _ h => rn_has h (add_pow hi hj)
theorem ok_r1sub : OkCon Tryz.prog 170 (conN2 cN1sub) := n2_ok (fun vs w => Go.MuLone.run_callFunc_enter Tryz.func170 rfl rfl vs w) fun n i m j t h C w a b ha hi hb hj => by
  obtain ⟨h1, h2, rfl⟩ := h
  have h1 : (_ + 1 ≤ 100000000) := Nat.ble_eq.mp h1
  have := len_k hi
  exact (mk_r1sub ha hb (by omega) h2).mono fun _ _ h => h.imp fun _ h => rn_has h (Nat.lt_of_le_of_lt (by omega) (add_pow hi hj))
theorem ok_r1mul : OkCon Tryz.prog 131 (conN2 cN1mul) := n2_ok (fun vs w => Go.MuLone.run_callFunc_enter Tryz.func131 rfl rfl vs w) fun n i m j t h C w a b ha hi hb hj => by
  obtain ⟨h1, rfl⟩ := h
  have h1 : (_ + 1 ≤ 100000000) := Nat.ble_eq.mp h1
  have := len_k hi
  have := len_k hj
  exact (mk_r1mul ha hb (by omega) (by omega)).mono fun _ _ h => h.imp fun _ h => rn_has h (by rw [Nat.pow_add]; exact Nat.mul_lt_mul_of_lt_of_lt hi hj)
theorem ok_r1cmp : OkCon Tryz.prog 167 (conN2 cN1cmp) := n2_ok (fun vs w => Go.MuLone.run_callFunc_enter Tryz.func167 rfl rfl vs w) fun n i m j t h C w a b ha hi hb hj => by
  obtain ⟨h1, rfl⟩ := h
  have h1 : (_ + 1 ≤ 100000000) := Nat.ble_eq.mp h1
  have := len_k hi
  have := len_k hj
  exact (mk_rcmp1 ha hb (by omega) (by omega)).mono fun _ _ h => h.imp fun _ h => by subst h; exact one_of rfl
def cR1of : Con
  | [[.lit (.int .u64 1)]] => .leaf (.one [.rn 1 1])
  | _ => .fail
theorem ok_r1of : OkCon Tryz.prog 74 cR1of := ⟨fun vs w => Go.MuLone.run_callFunc_enter Tryz.func74 rfl rfl vs w, fun args t hg C w vs _ ha => by
  unfold cR1of at hg
  split at hg
  · obtain rfl := hg
    obtain ⟨a, rfl, h1⟩ := all1 ha
    have h2 := u_rel h1 rfl
    simp only [U.rel, List.cons.injEq, and_true] at h2
    subst h2
    exact (mk_r1of 1 (by decide) w).mono fun _ _ h => h.imp fun _ h => rn_has h (by decide)
  · exact hg.elim⟩
def cR1in : Con
  | [[.ni n k]] => .leaf (.one [.rn n k])
  | _ => .fail
theorem ok_r1in : OkCon Tryz.prog 73 cR1in := ⟨fun vs w => Go.MuLone.run_callFunc_enter Tryz.func73 rfl rfl vs w, fun args t hg C w vs _ ha => by
  unfold cR1in at hg
  split at hg
  · obtain rfl := hg
    obtain ⟨a, rfl, h1⟩ := all1 ha
    have h2 := u_rel h1 rfl
    obtain ⟨v, h3, h4, h5⟩ := h2
    simp only [List.cons.injEq, and_true] at h3
    subst h3
    exact (mk_rin h4).mono fun _ _ h => h.imp fun _ h => rn_has h h5
  · exact hg.elim⟩
/-! ### gessoref02, gessoref03: made -/
def cR2made : Con
  | [[u], [x]] => match boolU u, rnU x with | some s, some (n, k) => .leaf (.one [.rz (sgnI s n) k]) | _, _ => .fail
  | _ => .fail
theorem boolU_has {C : Ctx} {w : World} {u : U} {b : Bool} {v : Value} (h : boolU u = some b) (hr : V.has C w [u] v) : v = .bool b := by
  obtain ⟨cs, ⟨c1, c2, rfl, h1, h2⟩, rfl⟩ := hr
  simp only [V.rel] at h2
  subst h2
  obtain rfl := boolU_rel h h1
  rfl
theorem ok_r2made : OkCon Tryz.prog 121 cR2made := ⟨fun vs w => Go.MuLone.run_callFunc_enter Tryz.func121 rfl rfl vs w, fun args t hg C w vs _ ha => by
  unfold cR2made at hg
  split at hg
  · split at hg
    · rename_i s n k hs hn
      obtain rfl := hg
      obtain ⟨a, b, rfl, h1, h2⟩ := all2 ha
      obtain rfl := boolU_has hs h1
      obtain ⟨h3, h4⟩ := rnU_has hn h2
      exact (mk_r2made s h3).mono fun _ _ h => h.imp fun _ h => rz_has h (by rw [sgn_abs]; exact h4)
    · exact hg.elim
  · exact hg.elim⟩
def cR2of : Con
  | [[.lit (.int .i64 x)]] => .chk (fitsB x) (.leaf (.one [.rz x 1]))
  | _ => .fail
theorem ok_r2of : OkCon Tryz.prog 148 cR2of := ⟨fun vs w => Go.MuLone.run_callFunc_enter Tryz.func148 rfl rfl vs w, fun args t hg C w vs _ ha => by
  unfold cR2of at hg
  split at hg
  · obtain ⟨h0, rfl⟩ := hg
    obtain ⟨h1, h2⟩ := fits_of h0
    obtain ⟨a, rfl, h3⟩ := all1 ha
    have h4 := u_rel h3 rfl
    simp only [U.rel, List.cons.injEq, and_true] at h4
    subst h4
    exact (mk_r2of _ h1 h2 w).mono fun _ _ h => h.imp fun _ h => rz_has h (by rw [Nat.pow_one]; unfold B64; omega)
  · exact hg.elim⟩
def cR3made : Con
  | [[.rz x i], [y]] => match rnU y with | some (n, j) => .chk ((i + j).blt LimK) (.need (n ≠ 0) (.leaf (.one [.rq (mkRat x n) (i.max j)]))) | none => .fail
  | _ => .fail
theorem ok_r3made : OkCon Tryz.prog 75 cR3made := ⟨fun vs w => Go.MuLone.run_callFunc_enter Tryz.func75 rfl rfl vs w, fun args t hg C w vs _ ha => by
  unfold cR3made at hg
  split at hg
  · rename_i x i y
    split at hg
    · rename_i n j hn
      obtain ⟨h0, h1, rfl⟩ := hg
      have h0 : (_ + 1 ≤ 100000000) := Nat.ble_eq.mp h0
      obtain ⟨a, b, rfl, ⟨cs, ⟨c1, c2, rfl, ⟨u, v, rfl, h2, h3⟩, h4⟩, rfl⟩, h5⟩ := all2 ha
      simp only [V.rel] at h4
      subst h4
      obtain ⟨h6, h7⟩ := rnU_has hn h5
      have := len_k h3
      have := len_k h7
      exact (mk_r3made_any (a := .agg #[u, v]) h2 h6 h1 (by omega) (by omega)).mono fun _ _ h => h.imp fun _ h => rq_has h (sz_mk (Nat.lt_of_lt_of_le h3 (Nat.pow_le_pow_right b64_pos (Nat.le_max_left i j))) (Nat.lt_of_lt_of_le h7 (Nat.pow_le_pow_right b64_pos (Nat.le_max_right i j))) h1)
    · exact hg.elim
  · exact hg.elim⟩
def cR3out : Con
  | [[.rq q k]] => .chk (k.blt LimK) (.leaf (.one [.rat q k]))
  | _ => .fail
theorem ok_r3out : OkCon Tryz.prog 79 cR3out := ⟨fun vs w => Go.MuLone.run_callFunc_enter Tryz.func79 rfl rfl vs w, fun args t hg C w vs _ ha => by
  unfold cR3out at hg
  split at hg
  · rename_i q k
    obtain ⟨h0, rfl⟩ := hg
    have h0 : (_ + 1 ≤ 100000000) := Nat.ble_eq.mp h0
    obtain ⟨a, rfl, ⟨cs, ⟨c1, c2, rfl, ⟨u, v, z, rfl, h2, h3⟩, h4⟩, rfl⟩⟩ := all1 ha
    simp only [V.rel] at h4
    subst h4
    have := len_k h3.1
    have := len_k h3.2
    exact (mk_r3out (a := .agg #[u, v, z]) h2 (by omega) (by omega)).mono fun _ _ h => h.imp fun _ h => rat_has ⟨h, h3⟩ (by unfold LimK; omega)
  · exact hg.elim⟩
def cR3of (l : Bool) (p q : Int) : Out T := .ask l (fitsB p && decide (0 < q) && decide (q < 4294967296)) (.leaf (.one [.rq (mkRat p q.toNat) 1]))
theorem ok_r3of : OkCon Tryz.prog 106 (conI2 cR3of) := i2_ok (fun vs w => Go.MuLone.run_callFunc_enter Tryz.func106 rfl rfl vs w) fun l p q t h => by
  obtain ⟨h0, rfl⟩ := ask_gets h
  simp only [Bool.and_eq_true, decide_eq_true_eq] at h0
  obtain ⟨⟨h1, h2⟩, h3⟩ := h0
  obtain ⟨h1, h1'⟩ := fits_of h1
  obtain ⟨n, rfl⟩ := Int.eq_ofNat_of_zero_le (Int.le_of_lt h2)
  exact fun C w => (mk_r3of (p := p) (q := n) h1 h1' (by omega) (by unfold B32; omega) w).mono fun _ _ h => h.imp fun _ h => rq_has h (sz_mk (by rw [Nat.pow_one]; unfold B64; omega) (by rw [Nat.pow_one]; unfold B64; omega) (by omega))
noncomputable def consR0 : List (FuncId × Con) := (171, conN2 cN1add) :: (170, conN2 cN1sub) :: (131, conN2 cN1mul) :: (167, conN2 cN1cmp) :: (74, cR1of) :: (73, cR1in) ::
  (121, cR2made) :: (148, cR2of) :: (75, cR3made) :: (79, cR3out) :: (106, conI2 cR3of) :: cons6
theorem consR0_ok : AllCon Tryz.prog consR0 := ⟨ok_r1add, ok_r1sub, ok_r1mul, ok_r1cmp, ok_r1of, ok_r1in, ok_r2made, ok_r2of, ok_r3made, ok_r3out, ok_r3of, cons6_ok⟩
def conZ1 (F : Int → Nat → Out T) : Con
  | [x] => match asRz x with | some (s, n, i) => F (sgnI s n) i | none => .fail
  | _ => .fail
def conZ2 (F : Int → Nat → Int → Nat → Out T) : Con
  | [x, y] => match asRz x, asRz y with | some (s, n, i), some (u, m, j) => F (sgnI s n) i (sgnI u m) j | _, _ => .fail
  | _ => .fail
theorem z1_ok {P : Program} {f : FuncId} {F : Int → Nat → Out T} (he : ∀ vs w, (callFunc f vs).run P w = .ok (.enter f vs) w)
    (h : ∀ s n i t, (F (sgnI s n) i).gets t → ∀ (C : Ctx) w vs, (∀ r, C.S r → r < w.heap.size) → V.hasAll C w [[.sym (.bool s), .rn n i]] vs → Calls P f (List.toArray vs) w (Makes w fun v w' => T.rel C w' t v)) : OkCon P f (conZ1 F) := ⟨he, fun args t hg C w vs hlt ha => by
  unfold conZ1 at hg
  split at hg
  · split at hg
    · rename_i s n i hx
      obtain ⟨a, rfl, h1⟩ := all1 ha
      exact h s n i t hg C w _ hlt ⟨a, [], rfl, asRz_has hx h1, rfl⟩
    · exact hg.elim
  · exact hg.elim⟩
theorem z2_ok {P : Program} {f : FuncId} {F : Int → Nat → Int → Nat → Out T} (he : ∀ vs w, (callFunc f vs).run P w = .ok (.enter f vs) w)
    (h : ∀ s n i u m j t, (F (sgnI s n) i (sgnI u m) j).gets t → ∀ (C : Ctx) w vs, (∀ r, C.S r → r < w.heap.size) → V.hasAll C w [[.sym (.bool s), .rn n i], [.sym (.bool u), .rn m j]] vs → Calls P f (List.toArray vs) w (Makes w fun v w' => T.rel C w' t v)) : OkCon P f (conZ2 F) := ⟨he, fun args t hg C w vs hlt ha => by
  unfold conZ2 at hg
  split at hg
  · split at hg
    · rename_i s n i u m j hx hy
      obtain ⟨a, b, rfl, h1, h2⟩ := all2 ha
      exact h s n i u m j t hg C w _ hlt ⟨a, [b], rfl, asRz_has hx h1, b, [], rfl, asRz_has hy h2, rfl⟩
    · exact hg.elim
  · exact hg.elim⟩
theorem sgn_not (s : Bool) (n : Nat) : sgnI (!s) n = -sgnI s n := by cases s <;> simp [sgnI]
theorem sgn_mule (s t : Bool) (n m : Nat) : sgnI (!s == t) (n * m) = sgnI s n * sgnI t m := by cases s <;> cases t <;> simp [sgnI, Int.neg_mul, Int.mul_neg]
theorem sgn_add (s : Bool) (n m : Nat) : sgnI s (n + m) = sgnI s n + sgnI s m := by cases s <;> simp [sgnI] <;> omega
theorem sgn_sub {s t : Bool} (h : (s == t) = false) {n m : Nat} (hle : m ≤ n) : sgnI s (n - m) = sgnI s n + sgnI t m := by cases s <;> cases t <;> simp_all [sgnI] <;> omega
def cZadd (x : Int) (i : Nat) (y : Int) (j : Nat) : Out T := .chk ((i + j).blt LimK) (.leaf (.one [.rz (x + y) (i.max j + 1)]))
def cZmul (x : Int) (i : Nat) (y : Int) (j : Nat) : Out T := .chk ((i + j).blt LimK) (.leaf (.one [.rz (x * y) (i + j)]))
def cZneg (x : Int) (i : Nat) : Out T := .leaf (.one [.rz (-x) i])
def cZsign (x : Int) (_ : Nat) : Out T := .leaf (.one [.sym (.int .i64 (sgnN x))])
theorem r2add_tree (s t : Bool) (n m i j : Nat) : exFn (envOf consR0) Tryz.f128 [[.sym (.bool s), .rn n i], [.sym (.bool t), .rn m j]] = .br (s == t) (.chk ((i + j).blt LimK) (.leaf (.one [.rz (sgnI s (n + m)) (i.max j + 1)])))
    (.chk ((i + j).blt LimK) (.br (decide (cmpN n m ≥ 0)) (.chk ((i + j).blt LimK) (.need (m ≤ n) (.leaf (.one [.rz (sgnI s (n - m)) (i.max j + 1)])))) (.chk ((j + i).blt LimK) (.need (n ≤ m) (.leaf (.one [.rz (sgnI t (m - n)) (j.max i + 1)])))))) := by kernel_rfl
theorem cmpN_geD {m n : Nat} : decide (cmpN m n ≥ 0) = decide (n ≤ m) := by
  unfold cmpN
  split
  · rw [decide_eq_false (by omega), decide_eq_false (by omega)]
  · split <;> rw [decide_eq_true (by omega), decide_eq_true (by omega)]
theorem ok_r2add : OkCon Tryz.prog 128 (conZ2 cZadd) := z2_ok (fun vs w => Go.MuLone.run_callFunc_enter Tryz.func128 rfl rfl vs w) fun s n i u m j t h C w vs hlt ha => by
  obtain ⟨h1, rfl⟩ := h
  have key := fun t ht => fn_tree (envOf_ok consR0_ok) Tryz.func128 (r2add_tree s u n m i j) (t := t) ht hlt ha
  cases hs : s == u
  · by_cases hle : m ≤ n
    · refine (key (.one [.rz (sgnI s (n - m)) (i.max j + 1)]) (.inr ⟨hs, h1, .inl ⟨?_, h1, hle, rfl⟩⟩)).mono fun _ _ h => h.imp fun _ h => ?_
      · rw [cmpN_geD]; exact decide_eq_true hle
      · rw [← sgn_sub hs hle]; exact h
    · have hle' : n ≤ m := by omega
      refine (key (.one [.rz (sgnI u (m - n)) (j.max i + 1)]) (.inr ⟨hs, h1, .inr ⟨?_, by rw [Nat.add_comm]; exact h1, hle', rfl⟩⟩)).mono fun _ _ h => h.imp fun _ h => ?_
      · rw [cmpN_geD]; exact decide_eq_false hle
      · rw [Int.add_comm, ← sgn_sub (by rw [Bool.beq_comm]; exact hs) hle']; rw [show i.max j = j.max i from Nat.max_comm i j]; exact h
  · have hsu : s = u := by simpa using hs
    refine (key (.one [.rz (sgnI s (n + m)) (i.max j + 1)]) (.inl ⟨hs, h1, rfl⟩)).mono fun _ _ h => h.imp fun _ h => ?_
    rw [← hsu, ← sgn_add]; exact h
theorem r2mul_tree (s t : Bool) (n m i j : Nat) : exFn (envOf consR0) Tryz.f129 [[.sym (.bool s), .rn n i], [.sym (.bool t), .rn m j]] = .chk ((i + j).blt LimK) (.leaf (.one [.rz (sgnI (!s == t) (n * m)) (i + j)])) := by kernel_rfl
theorem ok_r2mul : OkCon Tryz.prog 129 (conZ2 cZmul) := z2_ok (fun vs w => Go.MuLone.run_callFunc_enter Tryz.func129 rfl rfl vs w) fun s n i u m j t h C w vs hlt ha => by
  obtain ⟨h1, rfl⟩ := h
  refine (fn_tree (envOf_ok consR0_ok) Tryz.func129 (r2mul_tree s u n m i j) (t := .one [.rz (sgnI (!s == u) (n * m)) (i + j)]) ⟨h1, rfl⟩ hlt ha).mono fun _ _ h => h.imp fun _ h => ?_
  rw [← sgn_mule]; exact h
theorem r2neg_tree (s : Bool) (n i : Nat) : exFn (envOf consR0) Tryz.f147 [[.sym (.bool s), .rn n i]] = .leaf (.one [.rz (sgnI (!s) n) i]) := by kernel_rfl
theorem ok_r2neg : OkCon Tryz.prog 147 (conZ1 cZneg) := z1_ok (fun vs w => Go.MuLone.run_callFunc_enter Tryz.func147 rfl rfl vs w) fun s n i t h C w vs hlt ha => by
  obtain rfl := h
  refine (fn_tree (envOf_ok consR0_ok) Tryz.func147 (r2neg_tree s n i) (t := .one [.rz (sgnI (!s) n) i]) rfl hlt ha).mono fun _ _ h => h.imp fun _ h => ?_
  rw [← sgn_not]; exact h
theorem r2sign_tree (s : Bool) (n i : Nat) : exFn (envOf consR0) Tryz.f103 [[.sym (.bool s), .rn n i]] = .br ((((limB B32 n).length : Nat) : Int) == 0) (.leaf (.one [.lit (.int .i64 0)])) (.br s (.leaf (.one [.lit (.int .i64 (-1))])) (.leaf (.one [.lit (.int .i64 1)]))) := by kernel_rfl
theorem ok_r2sign : OkCon Tryz.prog 103 (conZ1 cZsign) := z1_ok (fun vs w => Go.MuLone.run_callFunc_enter Tryz.func103 rfl rfl vs w) fun s n i t h C w vs hlt ha => by
  obtain rfl := h
  have key := fun t ht => fn_tree (envOf_ok consR0_ok) Tryz.func103 (r2sign_tree s n i) (t := t) ht hlt ha
  by_cases h0 : n = 0
  · subst h0
    refine (key (.one [.lit (.int .i64 0)]) (.inl ⟨by rw [lim_zero]; rfl, rfl⟩)).mono fun _ _ h => h.imp fun _ h => ?_
    cases s <;> exact h
  · have hl : ((((limB B32 n).length : Nat) : Int) == 0) = false := beq_false_of_ne (fun h => h0 ((lim_nil b32_two).1 (List.eq_nil_of_length_eq_zero (by omega))))
    cases hs : s
    · subst hs
      refine (key (.one [.lit (.int .i64 1)]) (.inr ⟨hl, .inr ⟨rfl, rfl⟩⟩)).mono fun _ _ h => h.imp fun _ h => ?_
      rw [show sgnN (sgnI false n) = 1 by simp [sgnN, sgnI]; omega]; exact h
    · subst hs
      refine (key (.one [.lit (.int .i64 (-1))]) (.inr ⟨hl, .inl ⟨rfl, rfl⟩⟩)).mono fun _ _ h => h.imp fun _ h => ?_
      rw [show sgnN (sgnI true n) = -1 by simp [sgnN, sgnI]; omega]; exact h
noncomputable def consR1 : List (FuncId × Con) := (128, conZ2 cZadd) :: (129, conZ2 cZmul) :: (147, conZ1 cZneg) :: (103, conZ1 cZsign) :: consR0
theorem consR1_ok : AllCon Tryz.prog consR1 := ⟨ok_r2add, ok_r2mul, ok_r2neg, ok_r2sign, consR0_ok⟩
noncomputable def consR2 := fnsOf consR1 [(76, Tryz.f76), (172, Tryz.f172)]
theorem consR2_ok : AllCon Tryz.prog consR2 := fns_ok consR1_ok ⟨⟨Tryz.func76, rfl, rfl⟩, ⟨Tryz.func172, rfl, rfl⟩, trivial⟩
noncomputable def consR3 := fnsOf consR2 [(132, Tryz.f132)]
def cZsub (x : Int) (i : Nat) (y : Int) (j : Nat) : Out T := .chk ((i + j).blt LimK) (.leaf (.one [.rz (x - y) (i.max j + 1)]))
def cZcmp (x : Int) (i : Nat) (y : Int) (j : Nat) : Out T := .chk ((i + j).blt LimK) (.leaf (.one [.sym (.int .i64 (sgnN (x - y)))]))
theorem r2sub_tree (s t : Bool) (n m i j : Nat) : exFn (envOf consR1) Tryz.f172 [[.sym (.bool s), .rn n i], [.sym (.bool t), .rn m j]] = .chk ((i + j).blt LimK) (.leaf (.one [.rz (sgnI s n + sgnI (decide (-sgnI t m < 0)) (-sgnI t m).natAbs) (i.max j + 1)])) := by kernel_rfl
theorem ok_r2sub : OkCon Tryz.prog 172 (conZ2 cZsub) := z2_ok (fun vs w => Go.MuLone.run_callFunc_enter Tryz.func172 rfl rfl vs w) fun s n i u m j t h C w vs hlt ha => by
  obtain ⟨h1, rfl⟩ := h
  refine (fn_tree (envOf_ok consR1_ok) Tryz.func172 (r2sub_tree s u n m i j) (t := .one [.rz (sgnI s n + sgnI (decide (-sgnI u m < 0)) (-sgnI u m).natAbs) (i.max j + 1)]) ⟨h1, rfl⟩ hlt ha).mono fun _ _ h => h.imp fun _ h => ?_
  rw [sgn_of] at h
  exact h
noncomputable def consS0 := (172, conZ2 cZsub) :: consR1
theorem consS0_ok : AllCon Tryz.prog consS0 := ⟨ok_r2sub, consR1_ok⟩
theorem r2cmp_tree (s t : Bool) (n m i j : Nat) : exFn (envOf consS0) Tryz.f132 [[.sym (.bool s), .rn n i], [.sym (.bool t), .rn m j]] = .chk ((i + j).blt LimK) (.leaf (.one [.sym (.int .i64 (sgnN (sgnI (decide (sgnI s n - sgnI t m < 0)) (sgnI s n - sgnI t m).natAbs)))])) := by kernel_rfl
theorem ok_r2cmp : OkCon Tryz.prog 132 (conZ2 cZcmp) := z2_ok (fun vs w => Go.MuLone.run_callFunc_enter Tryz.func132 rfl rfl vs w) fun s n i u m j t h C w vs hlt ha => by
  obtain ⟨h1, rfl⟩ := h
  refine (fn_tree (envOf_ok consS0_ok) Tryz.func132 (r2cmp_tree s u n m i j) (t := .one [.sym (.int .i64 (sgnN (sgnI (decide (sgnI s n - sgnI u m < 0)) (sgnI s n - sgnI u m).natAbs)))]) ⟨h1, rfl⟩ hlt ha).mono fun _ _ h => h.imp fun _ h => ?_
  rw [sgn_of] at h
  exact h
/-! ### gessoref03 -/
theorem rq_sz {C : Ctx} {w : World} {q : Rat} {i : Nat} {v : Value} (h : V.has C w [.rq q i] v) : Sz i q := by
  obtain ⟨cs, ⟨c1, c2, rfl, ⟨a, b, c, rfl, h1, h2⟩, h3⟩, rfl⟩ := h
  exact h2
theorem rq_parts {C : Ctx} {w : World} {x : Int} {d i j k : Nat} {q : Rat} {v : Value} (h : T.rel C w (.one [.rz x i, .rn d j]) v) (hx : x = q.num) (hd : d = q.den) (hk : Sz k q) : T.rel C w (.one [.rq q k]) v := by
  subst hx hd
  obtain ⟨cs, ⟨c1, c2, rfl, ⟨a, b, rfl, ⟨u, he, h1⟩, -⟩, c3, c4, rfl, ⟨y, rfl, h2, -⟩, h3⟩, rfl⟩ := h
  simp only [V.rel] at h3
  subst h3
  simp only [Value.agg.injEq, Array.mk.injEq, List.cons.injEq, and_true] at he
  obtain ⟨rfl, rfl⟩ := he
  exact rq_has (v := .agg #[_, _, _]) ⟨_, _, rfl, h1, h2⟩ hk
def conQ1 (F : Rat → Nat → Out T) : Con
  | [[.rq q i]] => F q i
  | _ => .fail
def conQ2 (F : Rat → Nat → Rat → Nat → Out T) : Con
  | [[.rq q i], [.rq r j]] => F q i r j
  | _ => .fail
theorem q1_ok {P : Program} {f : FuncId} {F : Rat → Nat → Out T} (he : ∀ vs w, (callFunc f vs).run P w = .ok (.enter f vs) w)
    (h : ∀ q i t, (F q i).gets t → ∀ (C : Ctx) w vs, (∀ r, C.S r → r < w.heap.size) → V.hasAll C w [[.rq q i]] vs → Sz i q → Calls P f (List.toArray vs) w (Makes w fun v w' => T.rel C w' t v)) : OkCon P f (conQ1 F) := ⟨he, fun args t hg C w vs hlt ha => by
  unfold conQ1 at hg
  split at hg
  · rename_i q i
    obtain ⟨a, rfl, h1⟩ := all1 ha
    exact h q i t hg C w _ hlt ha (rq_sz h1)
  · exact hg.elim⟩
theorem q2_ok {P : Program} {f : FuncId} {F : Rat → Nat → Rat → Nat → Out T} (he : ∀ vs w, (callFunc f vs).run P w = .ok (.enter f vs) w)
    (h : ∀ q i r j t, (F q i r j).gets t → ∀ (C : Ctx) w vs, (∀ r, C.S r → r < w.heap.size) → V.hasAll C w [[.rq q i], [.rq r j]] vs → Sz i q → Sz j r → Calls P f (List.toArray vs) w (Makes w fun v w' => T.rel C w' t v)) : OkCon P f (conQ2 F) := ⟨he, fun args t hg C w vs hlt ha => by
  unfold conQ2 at hg
  split at hg
  · rename_i q i r j
    obtain ⟨a, b, rfl, h1, h2⟩ := all2 ha
    exact h q i r j t hg C w _ hlt ha (rq_sz h1) (rq_sz h2)
  · exact hg.elim⟩
noncomputable def consS1 := (132, conZ2 cZcmp) :: consS0
theorem consS1_ok : AllCon Tryz.prog consS1 := ⟨ok_r2cmp, consS0_ok⟩
def cQden (q : Rat) (i : Nat) : Out T := .leaf (.one [.lit (.bool false), .rn q.den i])
def cQsign (q : Rat) (_ : Nat) : Out T := .leaf (.one [.sym (.int .i64 (cmpR q 0))])
def cQneg (q : Rat) (i : Nat) : Out T := .leaf (.one [.rq (-q) i])
theorem den_tree (q : Rat) (i : Nat) : exFn (envOf consS1) Tryz.f130 [[.rq q i]] = .br ((((limB B32 q.den).length : Nat) : Int) == 0) (.chk (fitsB 1) (.leaf (.one [.rz 1 1]))) (.leaf (.one [.lit (.bool false), .rn q.den i])) := by kernel_rfl
theorem len_ne {n : Nat} (h : n ≠ 0) : ((((limB B32 n).length : Nat) : Int) == 0) = false := beq_false_of_ne (fun h' => h ((lim_nil b32_two).1 (List.eq_nil_of_length_eq_zero (by omega))))
theorem ok_r3den : OkCon Tryz.prog 130 (conQ1 cQden) := q1_ok (fun vs w => Go.MuLone.run_callFunc_enter Tryz.func130 rfl rfl vs w) fun q i t h C w vs hlt ha _ => by
  obtain rfl := h
  exact fn_tree (envOf_ok consS1_ok) Tryz.func130 (den_tree q i) (t := .one [.lit (.bool false), .rn q.den i]) (.inr ⟨len_ne q.den_nz, rfl⟩) hlt ha
theorem r3sign_tree (q : Rat) (i : Nat) : exFn (envOf consS1) Tryz.f56 [[.rq q i]] = .leaf (.one [.sym (.int .i64 (sgnN (sgnI (decide (q.num < 0)) q.num.natAbs)))]) := by kernel_rfl
theorem ok_r3sign : OkCon Tryz.prog 56 (conQ1 cQsign) := q1_ok (fun vs w => Go.MuLone.run_callFunc_enter Tryz.func56 rfl rfl vs w) fun q i t h C w vs hlt ha _ => by
  obtain rfl := h
  refine (fn_tree (envOf_ok consS1_ok) Tryz.func56 (r3sign_tree q i) (t := .one [.sym (.int .i64 (sgnN (sgnI (decide (q.num < 0)) q.num.natAbs)))]) rfl hlt ha).mono fun _ _ h => h.imp fun _ h => ?_
  rw [sgn_of, sgn_cmp] at h
  exact h
theorem r3neg_tree (q : Rat) (i : Nat) : exFn (envOf consS1) Tryz.f105 [[.rq q i]] = .leaf (.one [.rz (-sgnI (decide (q.num < 0)) q.num.natAbs) i, .rn q.den i]) := by kernel_rfl
theorem ok_r3neg : OkCon Tryz.prog 105 (conQ1 cQneg) := q1_ok (fun vs w => Go.MuLone.run_callFunc_enter Tryz.func105 rfl rfl vs w) fun q i t h C w vs hlt ha hs => by
  obtain rfl := h
  refine (fn_tree (envOf_ok consS1_ok) Tryz.func105 (r3neg_tree q i) (t := .one [.rz (-sgnI (decide (q.num < 0)) q.num.natAbs) i, .rn q.den i]) rfl hlt ha).mono fun _ _ h => h.imp fun _ h => ?_
  exact rq_parts h (by rw [sgn_of, Rat.neg_num]) (by rw [Rat.neg_den]) hs.neg
noncomputable def consS2 := (130, conQ1 cQden) :: (56, conQ1 cQsign) :: (105, conQ1 cQneg) :: consS1
theorem consS2_ok : AllCon Tryz.prog consS2 := ⟨ok_r3den, ok_r3sign, ok_r3neg, consS1_ok⟩
end Go.Proofs.YtafmfnpjhhaikaaGreatDoor
