/-
  gessoref01: Sub.
-/
import Derived.Test.YtafmfnpjhhaikaaGreatDoorZax
import Derived.Laws.AppendOwnNone
namespace Go.Proofs.YtafmfnpjhhaikaaGreatDoor
open Go.RowKit Go.Shelf
set_option maxHeartbeats 4000000 in
set_option maxRecDepth 100000 in
theorem rsub_any (p1 p2 : Option Addr) (c1 c2 : Nat) (l1 l2 : List Nat) (w : World) (h1 : R32 w (.slice p1 l1.length c1) l1) (h2 : R32 w (.slice p2 l2.length c2) l2) (hl1 : l1.length < 1000000000) (hl2 : l2.length ≤ l1.length) (hle : valB B32 l2 ≤ valB B32 l1) :
    Calls Tryz.prog 170 #[.slice p1 l1.length c1, .slice p2 l2.length c2] w fun e w' => ∃ p c, e = .returned (.slice p (limB B32 (valB B32 l1 - valB B32 l2)).length c) ∧
      O32 w' w.heap.size (.slice p (limB B32 (valB B32 l1 - valB B32 l2)).length c) (limB B32 (valB B32 l1 - valB B32 l2)) ∧ Bel w w' := by
  have H1 := Lib.hid h1
  have H2 := Lib.hid h2
  have HA1 := Lib.hid h1.all
  have HA2 := Lib.hid h2.all
  have HLE := Lib.hid hle
  have HMK := Lib.hid (fun wx => run_make32 l1.length (by omega) wx)
  have hmk := HMK.out
  obtain ⟨Z, hZ⟩ : ∃ Z, madeCells #[.int .u32 0] (l1.length * 1) = Z := ⟨_, rfl⟩
  have HO0 := Lib.hid (make_own32 w l1.length (by unfold maxLen; omega))
  rw [hZ] at hmk HO0
  clear h1 h2 HMK hZ hle
  go_enter Tryz.func170, Tryz.ntmps170
  go_wp2
  go_loopg [5, 6, 7] l1.length (fun gf s5 s6 s7 wx => ∃ (i c : Nat) (o : List Nat) (p : Option Addr) (cp : Nat), s7 = .int .i64 i ∧ s6 = .int .u64 (c : Nat) ∧ c ≤ 1 ∧ s5 = .slice p o.length cp ∧ i ≤ l1.length ∧ l1.length ≤ i + gf ∧ o.length = i ∧ O32 wx w.heap.size (.slice p o.length cp) o ∧
    valB B32 o + valB B32 (l2.take i) = valB B32 (l1.take i) + c * B32 ^ i ∧ Bel w wx)
  case atStart => exact ⟨0, 0, [], some ⟨w.heap.size, 0, none⟩, l1.length, rfl, rfl, by omega, rfl, by omega, by omega, rfl, HO0.out, by simp [valB], (Bel.refl w).alloc _⟩
  case round =>
    obtain ⟨i, c, o, p, cp, rfl, rfl, hc, rfl, hi, hig, ho, hown, hval, hb⟩ := hrel
    have HOWN := Lib.hid hown
    have HVAL := Lib.hid hval
    have HB := Lib.hid hb
    have HO := Lib.hid ho
    have hol : o.length < 2000000000 := by omega
    clear hown hval hb ho hmk HO0
    by_cases hgo : i < l1.length
    · obtain ⟨gk', rfl⟩ : ∃ g, gk = g + 1 := ⟨gk - 1, by omega⟩
      have hX := limb_lt (B := B32) (by decide) HA1.out i
      have hY := limb_lt (B := B32) (by decide) HA2.out i
      obtain ⟨b1, o1, d1, he1, -, q1, -⟩ := (H1.out.bel HB.out).at (limb_get hgo)
      simp only [Value.slice.injEq] at he1
      obtain ⟨rfl, -, rfl⟩ := he1
      have R2 := Lib.hid (H2.out.bel HB.out)
      have G2 := Lib.hid (fun h => limb_get (l := l2) (i := i) h)
      have Z2 := Lib.hid (fun h => limb_out (l := l2) (i := i) h)
      have HST := Lib.hid (fun s d => sub_step (s := s) (d := d) HO.out HVAL.out rfl rfl)
      obtain ⟨X, hX'⟩ : ∃ X, limbL l1 i = X := ⟨_, rfl⟩
      obtain ⟨Y, hY'⟩ : ∃ Y, limbL l2 i = Y := ⟨_, rfl⟩
      rw [hX'] at hX HST q1
      rw [hY'] at hY HST G2 Z2
      have hXB : X < 4294967296 := hX
      have hYB : Y < 4294967296 := hY
      have hFIN : Hid (∀ S D, S < 4294967296 → D ≤ 1 → S + Y + c = X + D * B32 → ∀ g3 c3 w3, O32 w3 w.heap.size (.slice (some ⟨g3, 0, none⟩) (o.length + 1) c3) (o ++ [S]) → Bel w w3 → ∃ (i' c' : Nat) (o' : List Nat) (p' : Option Addr) (cp' : Nat), (Value.int .i64 ((i : Int) + 1)) = .int .i64 i' ∧ (Value.int .u64 (D : Nat)) = .int .u64 (c' : Nat) ∧ c' ≤ 1 ∧ (Value.slice (some ⟨g3, 0, none⟩) (o.length + 1) c3) = .slice p' o'.length cp' ∧ i' ≤ l1.length ∧ l1.length ≤ i' + gk' ∧ o'.length = i' ∧ O32 w3 w.heap.size (.slice p' o'.length cp') o' ∧
          valB B32 o' + valB B32 (l2.take i') = valB B32 (l1.take i') + c' * B32 ^ i' ∧ Bel w w3) := fun S D _ hD hs g3 c3 w3 ho3 hb3 => by
        have hlen : (o ++ [S]).length = o.length + 1 := by simp
        exact ⟨i + 1, D, o ++ [S], some ⟨g3, 0, none⟩, c3, by rw [Int.natCast_add]; rfl, rfl, hD, by rw [hlen], by omega, by omega, by rw [hlen, HO.out], by rw [hlen]; exact ho3, HST.out S D hs, hb3⟩
      clear hX hY hX' hY' HST
      by_cases hlt : X < c + Y
      · obtain ⟨S, hS⟩ : ∃ S, X + 4294967296 - (c + Y) = S := ⟨_, rfl⟩
        have hSB : S < B32 := by show S < 4294967296; omega
        have hw : IntKind.u32.wrap ((X : Int) + 4294967296 - ((c : Int) + (Y : Int))) = (S : Int) := by rw [IntKind.wrap_u32]; omega
        have HE : Hid (S + Y + c = X + 1 * B32) := by show S + Y + c = X + 1 * 4294967296; omega
        by_cases a2 : i < l2.length
        · obtain ⟨b2, o2, d2, he2, -, q2, -⟩ := R2.out.at (G2.out a2)
          simp only [Value.slice.injEq] at he2
          obtain ⟨rfl, -, rfl⟩ := he2
          go_wp2_with (at_builtin; (refine wpList_limb32 (W := wr) (w0 := w) rfl (.tmp 41) (.tmp 46) rfl (.slice p o.length cp) o rfl HOWN.out HB.out _ rfl rfl S hSB (by omega) ?_); intro g3 c3 w3 ho3 hb3; have HR3 := Lib.hid (hFIN.out S 1 (by omega) (by decide) HE.out g3 c3 w3 ho3 hb3); clear ho3 hb3)
          go_roundg gk'
          case measure => omega
          case rel => exact HR3.out
        · obtain rfl := Z2.out a2
          replace hw : IntKind.u32.wrap ((X : Int) + 4294967296 - (c : Int)) = (S : Int) := by rw [← hw]; congr 1
          go_wp2_with (at_builtin; (refine wpList_limb32 (W := wr) (w0 := w) rfl (.tmp 41) (.tmp 46) rfl (.slice p o.length cp) o rfl HOWN.out HB.out _ rfl rfl S hSB (by omega) ?_); intro g3 c3 w3 ho3 hb3; have HR3 := Lib.hid (hFIN.out S 1 (by omega) (by decide) HE.out g3 c3 w3 ho3 hb3); clear ho3 hb3)
          go_roundg gk'
          case measure => omega
          case rel => exact HR3.out
      · obtain ⟨S, hS⟩ : ∃ S, X - (c + Y) = S := ⟨_, rfl⟩
        have hSB : S < B32 := by show S < 4294967296; omega
        have hw : IntKind.u32.wrap ((X : Int) - ((c : Int) + (Y : Int))) = (S : Int) := by rw [IntKind.wrap_u32]; omega
        have HE : Hid (S + Y + c = X + 0 * B32) := by show S + Y + c = X + 0 * 4294967296; omega
        by_cases a2 : i < l2.length
        · obtain ⟨b2, o2, d2, he2, -, q2, -⟩ := R2.out.at (G2.out a2)
          simp only [Value.slice.injEq] at he2
          obtain ⟨rfl, -, rfl⟩ := he2
          go_wp2_with (at_builtin; (refine wpList_limb32 (W := wr) (w0 := w) rfl (.tmp 41) (.tmp 46) rfl (.slice p o.length cp) o rfl HOWN.out HB.out _ rfl rfl S hSB (by omega) ?_); intro g3 c3 w3 ho3 hb3; have HR3 := Lib.hid (hFIN.out S 0 (by omega) (by decide) HE.out g3 c3 w3 ho3 hb3); clear ho3 hb3)
          go_roundg gk'
          case measure => omega
          case rel => exact HR3.out
        · obtain rfl := Z2.out a2
          replace hw : IntKind.u32.wrap ((X : Int) - (c : Int)) = (S : Int) := by rw [← hw]; congr 1
          go_wp2_with (at_builtin; (refine wpList_limb32 (W := wr) (w0 := w) rfl (.tmp 41) (.tmp 46) rfl (.slice p o.length cp) o rfl HOWN.out HB.out _ rfl rfl S hSB (by omega) ?_); intro g3 c3 w3 ho3 hb3; have HR3 := Lib.hid (hFIN.out S 0 (by omega) (by decide) HE.out g3 c3 w3 ho3 hb3); clear ho3 hb3)
          go_roundg gk'
          case measure => omega
          case rel => exact HR3.out
    · obtain rfl : i = l1.length := by omega
      have hval : valB B32 o = valB B32 l1 - valB B32 l2 := by
        have h := HVAL.out
        rw [List.take_of_length_le (Nat.le_refl _), List.take_of_length_le (by omega)] at h
        have hlt := val_lt HOWN.out.2
        rw [HO.out] at hlt
        have := HLE.out
        have hc0 : c = 0 ∨ c = 1 := by omega
        rcases hc0 with rfl | rfl <;> omega
      have hfin : limB B32 (valB B32 l1 - valB B32 l2) = trimL o := by rw [← hval, lim_val b32_two HOWN.out.2]
      have HF := Lib.hid hfin
      clear hval hfin hgo
      go_wp2_with (go_at_call 118; (with_reducible refine (rtrim_any _ _ o _ HOWN.out.row (by omega)).mono ?_); rintro e w4 ⟨rfl, hw4⟩; obtain rfl := hw4.symm)
      go_ret
      rw [HF.out]
      refine ⟨p, cp, rfl, ?_, HB.out⟩
      have h := HOWN.out.take (trim_len o)
      rwa [← trim_prefix] at h
set_option maxHeartbeats 4000000 in
set_option maxRecDepth 100000 in
theorem rmul_any (p1 p2 : Option Addr) (c1 c2 : Nat) (l1 l2 : List Nat) (w : World) (h1 : R32 w (.slice p1 l1.length c1) l1) (h2 : R32 w (.slice p2 l2.length c2) l2) (hl1 : l1.length < 1000000000) (hl2 : l2.length < 1000000000) :
    Calls Tryz.prog 131 #[.slice p1 l1.length c1, .slice p2 l2.length c2] w fun e w' => ∃ p c, e = .returned (.slice p (limB B32 (valB B32 l1 * valB B32 l2)).length c) ∧
      O32 w' w.heap.size (.slice p (limB B32 (valB B32 l1 * valB B32 l2)).length c) (limB B32 (valB B32 l1 * valB B32 l2)) ∧ Bel w w' := by
  have H1 := Lib.hid h1
  have H2 := Lib.hid h2
  have HA1 := Lib.hid h1.all
  have HA2 := Lib.hid h2.all
  obtain ⟨n, hn⟩ : ∃ n, l1.length = n := ⟨_, rfl⟩
  obtain ⟨m, hm⟩ : ∃ m, l2.length = m := ⟨_, rfl⟩
  have HN := Lib.hid hn
  have HM := Lib.hid hm
  rw [hn] at hl1 ⊢
  rw [hm] at hl2 ⊢
  have hmk := fun wx => run_made32 (n + m) (by omega) wx
  rw [show ((n + m : Nat) : Int) = (n : Int) + (m : Int) by omega] at hmk
  obtain ⟨Z, hZ⟩ : ∃ Z, madeCells #[.int .u32 0] ((n + m) * 1) = Z := ⟨_, rfl⟩
  have HO0 := Lib.hid (made_own32 w (n + m) (by unfold maxLen; omega))
  rw [hZ] at hmk HO0
  obtain ⟨G, hG⟩ : ∃ G, w.heap.size = G := ⟨_, rfl⟩
  rw [hG] at HO0 ⊢
  have HG := Lib.hid hG
  clear h1 h2 hn hm hZ
  go_enter Tryz.func131, Tryz.ntmps131
  go_wp2
  go_loopg [6] n (fun gf s6 wx => ∃ (i : Nat) (o : List Nat), s6 = .int .i64 i ∧ i ≤ n ∧ n ≤ i + gf ∧ o.length = n + m ∧ O32 wx G (.slice (some ⟨G, 0, none⟩) (n + m) (n + m)) o ∧
    (∀ j, i + m ≤ j → limbL o j = 0) ∧ valB B32 o = valB B32 (l1.take i) * valB B32 l2 ∧ Bel w wx)
  case atStart => exact ⟨0, List.replicate (n + m) 0, rfl, by omega, by omega, by simp, HO0.out, fun j _ => limb_zeros _ _, by rw [val_zeros]; simp [valB], (Bel.refl w).alloc _⟩
  case round =>
    obtain ⟨i, o, rfl, hi, hig, ho, hown, hz, hval, hb⟩ := hrel
    have HOWN := Lib.hid hown
    have HVAL := Lib.hid hval
    have HB := Lib.hid hb
    have HO := Lib.hid ho
    have HZ := Lib.hid hz
    clear hown hval hb ho hz
    by_cases hlt : i < n
    · obtain ⟨gk', rfl⟩ : ∃ g, gk = g + 1 := ⟨gk - 1, by omega⟩
      obtain ⟨X, hX⟩ : ∃ X, l1[i]? = some X := ⟨_, List.getElem?_eq_getElem (by rw [HN.out]; exact hlt)⟩
      have HX := Lib.hid (limb_at hX)
      have HXX := Lib.hid hX
      clear hX
      go_wp2
      go_loopg [7, 8] m (fun gf s7 s8 wx => ∃ (k c : Nat) (o : List Nat), s8 = .int .i64 k ∧ s7 = .int .u64 (c : Nat) ∧ c < B32 ∧ k ≤ m ∧ m ≤ k + gf ∧ o.length = n + m ∧ O32 wx G (.slice (some ⟨G, 0, none⟩) (n + m) (n + m)) o ∧
        (∀ j, i + m ≤ j → limbL o j = 0) ∧ valB B32 o + B32 ^ (i + k) * c = valB B32 (l1.take i) * valB B32 l2 + X * B32 ^ i * valB B32 (l2.take k) ∧ Bel w wx)
      case atStart => exact ⟨0, 0, o, rfl, rfl, by decide, by omega, by omega, HO.out, HOWN.out, HZ.out, by rw [HVAL.out]; simp [valB], HB.out⟩
      case round =>
        obtain ⟨k, c, o, rfl, rfl, hc, hk, hkg, ho, hown, hz, hval, hb⟩ := hrel
        have HOWN := Lib.hid hown
        have HVAL := Lib.hid hval
        have HB := Lib.hid hb
        have HO := Lib.hid ho
        have HZ := Lib.hid hz
        clear hown hval hb ho hz
        have hcB : c < 4294967296 := hc
        by_cases hkm : k < m
        · obtain ⟨gm, rfl⟩ : ∃ g, gk = g + 1 := ⟨gk - 1, by omega⟩
          have h1 := H1.out.bel HB.out
          obtain ⟨b1, o1, c1', he, hc1, q1, hXB⟩ := h1.at HXX.out
          simp only [Value.slice.injEq] at he
          obtain ⟨rfl, _, rfl⟩ := he
          obtain ⟨Y, hY⟩ : ∃ Y, l2[k]? = some Y := ⟨_, List.getElem?_eq_getElem (by rw [HM.out]; exact hkm)⟩
          have h2 := H2.out.bel HB.out
          obtain ⟨b2, o2, c2', he, hc2, q2, hYB⟩ := h2.at hY
          simp only [Value.slice.injEq] at he
          obtain ⟨rfl, _, rfl⟩ := he
          have HY := Lib.hid (limb_at hY)
          have hT := limb_some (show i + k < o.length by rw [HO.out]; omega)
          obtain ⟨T, hT'⟩ : ∃ T, limbL o (i + k) = T := ⟨_, rfl⟩
          rw [hT'] at hT
          have HT := Lib.hid hT'
          have hTB : T < 4294967296 := HOWN.out.2 T (List.mem_of_getElem? hT)
          have hXB' : X < 4294967296 := hXB
          have hYB' : Y < 4294967296 := hYB
          obtain ⟨q3, q4⟩ := own_cell32 HOWN.out hT
          have hbd := mul_bound (B := B32) hXB hYB hc hTB
          have hP1 : X * Y ≤ 4294967295 * 4294967295 := Nat.mul_le_mul (by omega) (by omega)
          have hPi : (X : Int) * (Y : Int) = ((X * Y : Nat) : Int) := by rw [Int.natCast_mul]
          obtain ⟨V, hV⟩ : ∃ V, T + X * Y + c = V := ⟨_, rfl⟩
          have HEQ : Hid ((V / B32) * B32 + V % B32 = X * Y + c + T) := by
            unfold Hid
            rw [Nat.mul_comm, Nat.div_add_mod]
            omega
          have hVe : X * Y + c + T = V := by omega
          rw [hVe] at hbd
          obtain ⟨P, hP⟩ : ∃ P, X * Y = P := ⟨_, rfl⟩
          rw [hP] at hP1 hPi hV
          have hVi : (T : Int) + (P : Int) + (c : Int) = (V : Int) := by omega
          have hwP : IntKind.u64.wrap ((X : Int) * (Y : Int)) = (P : Int) := by rw [hPi, IntKind.wrap_u64]; omega
          have hw := u32_of (v := V)
          have hsh := shr32 (v := V)
          have hO1B : V % B32 < B32 := Nat.mod_lt _ (by decide)
          obtain ⟨O1, hO1⟩ : ∃ O1, V % B32 = O1 := ⟨_, rfl⟩
          obtain ⟨D, hD⟩ : ∃ D, V / B32 = D := ⟨_, rfl⟩
          rw [hO1] at hw HEQ hO1B
          rw [hD] at hsh HEQ hbd
          have HS := Lib.hid (fun nq => own_store32 (w := wr.drewN nq) HOWN.out (HB.out.drewN nq) (Nat.le_of_eq HG.out) (i + k) O1 hO1B)
          have e1 : ((i : Int) + (k : Int)).toNat = i + k := by omega
          have HBD := Lib.hid hbd
          clear hY h1 h2 hT hT' hbd hO1 hD hP hV hVe
          go_wp2
          go_quiet (fail)
          obtain ⟨W, hW⟩ : ∃ W, wr.drewN nq = W := ⟨_, rfl⟩
          have HS2 := Lib.hid (HS.out nq)
          have z3 : W.cell? ⟨G, i + k, none⟩ = some (.int .u32 (T : Int)) := by rw [← hW]; exact q3
          have z4 : W.frozen? ⟨G, i + k, none⟩ = false := by rw [← hW]; exact q4
          rw [hW] at HS2 ⊢
          clear hW q3 q4 HS
          go_wp2
          go_roundg gm
          case measure => omega
          case rel =>
            refine ⟨k + 1, D, o.set (i + k) O1, by go_num, by go_num, HBD.out, by omega, by omega, by rw [List.length_set]; exact HO.out, HS2.out.1, fun j hj => ?_, ?_, HS2.out.2⟩
            · rw [limb_set (by omega)]; exact HZ.out j hj
            · exact mul_step (by rw [HO.out]; omega) HY.out (by rw [HT.out]; exact HEQ.out) HVAL.out
        · obtain rfl : k = m := by omega
          have hT := limb_some (show i + k < o.length by rw [HO.out]; omega)
          rw [HZ.out _ (Nat.le_refl _)] at hT
          obtain ⟨q3, q4⟩ := own_cell32 HOWN.out hT
          have HS := Lib.hid (own_store32 HOWN.out HB.out (Nat.le_of_eq HG.out) (i + k) c hc)
          have e1 : ((i : Int) + (k : Int)).toNat = i + k := by omega
          have HROW := Lib.hid (mul_row (by rw [HO.out]; omega) HX.out (HZ.out _ (Nat.le_refl _)) HM.out HVAL.out)
          clear hT
          go_wp2
          go_roundg gk'
          case measure => omega
          case rel =>
            refine ⟨i + 1, o.set (i + k) c, by go_num, by omega, by omega, by rw [List.length_set]; exact HO.out, HS.out.1, fun j hj => ?_, HROW.out, HS.out.2⟩
            rw [limb_set (by omega)]; exact HZ.out j (by omega)
    · obtain rfl : i = n := by omega
      have hval : valB B32 o = valB B32 l1 * valB B32 l2 := by
        rw [HVAL.out, List.take_of_length_le (by rw [HN.out]; omega)]
      have hfin : limB B32 (valB B32 l1 * valB B32 l2) = trimL o := by rw [← hval, lim_val b32_two HOWN.out.2]
      have HFIN := Lib.hid hfin
      have hrow := HOWN.out.row
      have HTR := Lib.hid (fun hh => rtrim_any (some ⟨G, 0, none⟩) (i + m) o wr hh (by rw [HO.out]; omega))
      rw [HO.out] at HTR
      replace HTR := Lib.hid (HTR.out hrow)
      clear hval hfin hrow
      go_wp2_with (first
        | (go_at_call 118; (with_reducible refine (HTR.out).mono ?_); rintro e w4 ⟨rfl, hw4⟩; obtain rfl := hw4.symm))
      go_ret
      rw [HFIN.out]
      refine ⟨some ⟨G, 0, none⟩, i + m, rfl, ?_, HB.out⟩
      have h := HOWN.out.take (trim_len o)
      rwa [← trim_prefix] at h
theorem mk_r1add {w : World} {a b : Value} {m n : Nat} (ha : NR w a m) (hb : NR w b n) (hm : (limB B32 m).length < 1000000000) (hn : (limB B32 n).length < 1000000000) : Calls Tryz.prog 171 #[a, b] w (Makes w fun v w' => NR w' v (m + n)) := by
  obtain ⟨p1, c1, rfl, r1, -⟩ := ha
  obtain ⟨p2, c2, rfl, r2, -⟩ := hb
  refine (radd_any p1 p2 c1 c2 _ _ w r1 r2 hm hn).mono ?_
  rintro e w' ⟨p, c, rfl, ho, hb⟩
  simp only [val_lim b32_two] at ho ⊢
  exact ⟨_, rfl, hb, nr_of ho⟩
theorem lim_mono {m n : Nat} (h : m ≤ n) : (limB B32 m).length ≤ (limB B32 n).length := lim_len b32_two (Nat.lt_of_le_of_lt h (lim_lt b32_two (Nat.le_refl _)))
theorem mk_r1sub {w : World} {a b : Value} {m n : Nat} (ha : NR w a m) (hb : NR w b n) (hm : (limB B32 m).length < 1000000000) (hn : n ≤ m) : Calls Tryz.prog 170 #[a, b] w (Makes w fun v w' => NR w' v (m - n)) := by
  obtain ⟨p1, c1, rfl, r1, -⟩ := ha
  obtain ⟨p2, c2, rfl, r2, -⟩ := hb
  refine (rsub_any p1 p2 c1 c2 _ _ w r1 r2 hm (lim_mono hn) (by simp only [val_lim b32_two]; exact hn)).mono ?_
  rintro e w' ⟨p, c, rfl, ho, hb⟩
  simp only [val_lim b32_two] at ho ⊢
  exact ⟨_, rfl, hb, nr_of ho⟩
theorem mk_r1mul {w : World} {a b : Value} {m n : Nat} (ha : NR w a m) (hb : NR w b n) (hm : (limB B32 m).length < 1000000000) (hn : (limB B32 n).length < 1000000000) : Calls Tryz.prog 131 #[a, b] w (Makes w fun v w' => NR w' v (m * n)) := by
  obtain ⟨p1, c1, rfl, r1, -⟩ := ha
  obtain ⟨p2, c2, rfl, r2, -⟩ := hb
  refine (rmul_any p1 p2 c1 c2 _ _ w r1 r2 hm hn).mono ?_
  rintro e w' ⟨p, c, rfl, ho, hb⟩
  simp only [val_lim b32_two] at ho ⊢
  exact ⟨_, rfl, hb, nr_of ho⟩
theorem mul_len (m n : Nat) : (limB B32 (m * n)).length ≤ (limB B32 m).length + (limB B32 n).length := by
  refine lim_len b32_two ?_
  rw [Nat.pow_add]
  have h1 := lim_lt b32_two (n := m) (Nat.le_refl _)
  have h2 := lim_lt b32_two (n := n) (Nat.le_refl _)
  exact Nat.mul_lt_mul_of_lt_of_lt h1 h2
theorem len_64 {x : Nat} (h : x < B64) : (limB B32 x).length ≤ 2 := lim_len b32_two (show x < B32 ^ 2 from h)
theorem cmpN_le {m n : Nat} : decide (cmpN m n ≤ 0) = decide (m ≤ n) := by
  unfold cmpN
  split
  · rw [decide_eq_true (by omega), decide_eq_true (by omega)]
  · split
    · rw [decide_eq_true (by omega), decide_eq_true (by omega)]
    · rw [decide_eq_false (by omega), decide_eq_false (by omega)]
theorem top_one {n m : Nat} (h : (limB B32 n).length = m + 1) : limbL (limB B32 n) m = n / B32 ^ m := by
  have h1 := val_drop_div (B := B32) (by decide) (lim_all b32_two n) m
  rw [val_lim b32_two, val_drop_cons (limb_get (by omega)), List.drop_of_length_le (by omega)] at h1
  simpa [valB] using h1
theorem top_two {n m : Nat} (h : (limB B32 n).length = m + 2) : limbL (limB B32 n) (m + 1) * B32 + limbL (limB B32 n) m = n / B32 ^ m := by
  have h1 := val_drop_div (B := B32) (by decide) (lim_all b32_two n) m
  rw [val_lim b32_two, val_drop_cons (limb_get (by omega)), val_drop_cons (limb_get (by omega)), List.drop_of_length_le (by omega)] at h1
  simp only [valB, Nat.mul_zero, Nat.add_zero] at h1
  rw [← h1, Nat.mul_comm, Nat.add_comm]
theorem guess_low {r n P : Nat} (hP : 0 < P) (h0 : 0 < n) : r / P / (n / P + 1) ≤ r / n := by
  rw [Nat.le_div_iff_mul_le h0]
  have h1 : n ≤ (n / P + 1) * P := Nat.le_of_lt (Nat.lt_mul_of_div_lt (Nat.lt_succ_self _) hP)
  calc r / P / (n / P + 1) * n ≤ r / P / (n / P + 1) * ((n / P + 1) * P) := Nat.mul_le_mul_left _ h1
    _ = r / P / (n / P + 1) * (n / P + 1) * P := (Nat.mul_assoc _ _ _).symm
    _ ≤ r / P * P := Nat.mul_le_mul_right _ (Nat.div_mul_le_self _ _)
    _ ≤ r := Nat.div_mul_le_self _ _
set_option maxHeartbeats 4000000 in
set_option maxRecDepth 100000 in
theorem rguess_any {w : World} {a b : Value} {r n : Nat} (ha : NR w a r) (hb : NR w b n) (hr : (limB B32 r).length < 900000000) (h0 : 0 < n) (hle : n ≤ r) (hlt : r < n * B32) :
    Calls Tryz.prog 169 #[a, b] w (Makes w fun v _ => v = .int .u32 ((r / n : Nat) : Int)) := by
  have hnl := lim_mono hle
  have hrl : (limB B32 r).length ≤ (limB B32 n).length + 1 := lim_len b32_two (by
    rw [Nat.pow_succ]
    exact Nat.lt_trans hlt (Nat.mul_lt_mul_of_pos_right (lim_lt b32_two (Nat.le_refl _)) (by decide)))
  have hn1 : (limB B32 n).length ≠ 0 := fun h => by
    have := (lim_nil b32_two).1 (List.eq_nil_of_length_eq_zero h)
    omega
  have hqB : r / n < B32 := by rw [Nat.div_lt_iff_lt_mul h0, Nat.mul_comm]; exact hlt
  have HOF := Lib.hid (fun X x (h : x < B64) => mk_r1of x h X)
  have HMU := Lib.hid (fun X (hX : Bel w X) v x (hv : NR X v x) (h : x < B64) => mk_r1mul (hb.bel hX) hv (by omega) (by have := len_64 h; omega))
  have HCM := Lib.hid (fun X (hX : Bel w X) v x (hv : NR X v (n * x)) (h : x < B64) => mk_rcmp1 hv (ha.bel hX) (by have := len_64 h; have := mul_len n x; omega) (by omega))
  obtain ⟨Q, hQ⟩ : ∃ Q, r / n = Q := ⟨_, rfl⟩
  have HOK : Hid (∀ x, n * x ≤ r ↔ x ≤ Q) := fun x => by rw [← hQ, Nat.le_div_iff_mul_le h0, Nat.mul_comm]
  have hQB : Q < 4294967296 := hQ ▸ hqB
  rw [hQ]
  obtain ⟨m, hm⟩ : ∃ m, (limB B32 n).length = m + 1 := ⟨(limB B32 n).length - 1, by omega⟩
  have htn := top_one hm
  have hlow := guess_low (r := r) (n := n) (P := B32 ^ m) (Nat.pow_pos (by decide)) h0
  obtain ⟨p1, c1, rfl, r1, -⟩ := ha
  obtain ⟨p2, c2, rfl, r2, -⟩ := hb
  obtain ⟨b2, o2, c2', he, hc2, q2, hYB⟩ := r2.at (limb_get (i := m) (by omega))
  simp only [Value.slice.injEq] at he
  obtain ⟨rfl, _, rfl⟩ := he
  rw [htn] at q2 hYB
  rw [hm] at HMU hc2 ⊢
  rw [hQ] at hlow
  have hTB : limbL (limB B32 n) m < B32 := limb_lt (by decide) (lim_all b32_two n) m
  rw [htn] at hTB
  obtain ⟨bt, hbt⟩ : ∃ bt, n / B32 ^ m = bt := ⟨_, rfl⟩
  rw [hbt] at q2 hlow hTB
  have hTB' : bt < 4294967296 := hTB
  obtain ⟨kb, hkb⟩ : ∃ kb, m + 1 = kb := ⟨_, rfl⟩
  have en1 : (kb : Int) - 1 = (m : Int) := by omega
  have hkb2 : kb < 900000001 := by omega
  have hmk : m < kb := by omega
  rcases (show (limB B32 r).length = m + 2 ∨ (limB B32 r).length = m + 1 by omega) with hk | hk
  · have htr := top_two hk
    obtain ⟨b1, o1, c1', he, hc1, q1, hX1⟩ := r1.at (limb_get (i := m + 1) (by omega))
    simp only [Value.slice.injEq] at he
    obtain ⟨rfl, _, rfl⟩ := he
    obtain ⟨b1', o1', c1', he, _, q0, hX0⟩ := r1.at (limb_get (i := m) (by omega))
    simp only [Value.slice.injEq, Option.some.injEq, Addr.mk.injEq, and_true] at he
    obtain ⟨⟨rfl, rfl⟩, _, rfl⟩ := he
    obtain ⟨T, hT⟩ : ∃ T, r / B32 ^ m = T := ⟨_, rfl⟩
    rw [hT] at htr hlow
    have hor := short_or hX1 hX0
    rw [htr] at hor
    have hTT : T < 18446744073709551616 := by
      rw [← htr]
      exact Nat.lt_of_lt_of_le (Nat.add_lt_add_of_le_of_lt (Nat.mul_le_mul_right B32 (Nat.le_pred_of_lt hX1)) hX0) (by decide)
    obtain ⟨x1, hx1⟩ : ∃ x, limbL (limB B32 r) (m + 1) = x := ⟨_, rfl⟩
    obtain ⟨x0, hx0⟩ : ∃ x, limbL (limB B32 r) m = x := ⟨_, rfl⟩
    rw [hx1] at q1 hor hX1
    rw [hx0] at q0 hor hX0
    have hX1' : x1 < 4294967296 := hX1
    have hX0' : x0 < 4294967296 := hX0
    rw [hk] at HCM hc1 ⊢
    obtain ⟨kr, hkr⟩ : ∃ kr, m + 2 = kr := ⟨_, rfl⟩
    have en2 : (kr : Int) - 1 = (kb : Int) := by omega
    have en3 : (kr : Int) - 2 = (m : Int) := by omega
    have hkr2 : kr < 900000001 := by omega
    have hbr : kb < kr := by omega
    have hmr : m < kr := by omega
    rw [hkr] at HCM hc1 ⊢
    rw [hkb] at HMU hc2 q1 ⊢
    clear hkr hx1 hx0 hX1 hX0 r1 r2 hk hm hkb hnl hrl hn1 hqB htn hT hbt htr hle hlt hQ hYB hTB
    obtain ⟨D, hD⟩ : ∃ D, T / (bt + 1) = D := ⟨_, rfl⟩
    rw [hD] at hlow
    have hDi : (T : Int) / ((bt : Int) + 1) = (D : Int) := by rw [← hD]; rfl
    have hDB : D < 4294967296 := by omega
    clear hD h0
    go_enter Tryz.func169, Tryz.ntmps169
    go_wp2
    go_loopg [8, 9, 10] 33 (fun gf s8 s9 s10 wx => ∃ (lo hi St j : Nat), s8 = .int .u64 (lo : Int) ∧ s9 = .int .u64 (hi : Int) ∧ s10 = .int .u64 (St : Int) ∧ lo ≤ Q ∧ lo ≤ hi ∧ hi + 1 = D + St ∧ St = 2 ^ j ∧ j ≤ 33 ∧ 33 ≤ j + gf ∧ Bel w wx)
    case atStart => exact ⟨D, D, 1, 0, rfl, rfl, rfl, hlow, Nat.le_refl _, rfl, rfl, by decide, by decide, Bel.refl w⟩
    case round =>
      obtain ⟨lo, hi, St, j, rfl, rfl, rfl, hlo, hlh, hSt, hj, hj2, hj3, hbw⟩ := hrel
      have HBW := Lib.hid hbw
      have HJ := Lib.hid hj
      have hS2 : St ≤ 8589934592 := by rw [hj]; exact Nat.pow_le_pow_right (n := 2) (by decide) hj2
      have hhi : hi < 18446744073709551616 := by omega
      have HHI : Hid (hi < B64) := hhi
      have hOF := HOF.out wr hi hhi
      have HO1 := Lib.hid hOF
      have HQ := HOK.out hi
      have hcd := @cmpN_le (n * hi) r
      clear hbw hj hOF
      by_cases hok : hi ≤ Q
      · have hdc : decide (cmpN (n * hi) r ≤ 0) = true := by rw [hcd]; exact decide_eq_true (HQ.2 hok)
        obtain ⟨C, hC⟩ : ∃ C, cmpN (n * hi) r = C := ⟨_, rfl⟩
        have HC := Lib.hid hC
        rw [hC] at hdc
        have hC0 : C ≤ 0 := of_decide_eq_true hdc
        have hgk : 0 < gk := Nat.pos_of_ne_zero fun h => by
          have hjj : j = 33 := by omega
          have := HJ.out
          rw [hjj] at this
          omega
        obtain ⟨gk', rfl⟩ : ∃ g, gk = g + 1 := ⟨gk - 1, by omega⟩
        have hj4 : j < 33 := Nat.lt_of_not_le fun h => by
          have hjj : j = 33 := by omega
          have := HJ.out
          rw [hjj] at this
          omega
        have HJ2 := Lib.hid hj2
        have HJ3 := Lib.hid hj3
        have HJ4 := Lib.hid hj4
        have hdd : decide ((hi : Int) < 4294967296) = true := decide_eq_true (by omega)
        clear hcd HQ hC hdc hj2 hj3 hj4 hgk
        go_wp2_with (first
          | (go_at_call 74; (with_reducible refine HO1.out.mono ?_); rintro e w2 ⟨v2, rfl, hb2, hv2⟩; have HB2 := Lib.hid (HBW.out.trans hb2); have HV2 := Lib.hid hv2; clear hb2 hv2)
          | (go_at_call 131; (with_reducible refine (HMU.out _ HB2.out _ _ HV2.out HHI.out).mono ?_); rintro e w3 ⟨v3, rfl, hb3, hv3⟩; have HB3 := Lib.hid (HB2.out.trans hb3); have HV3 := Lib.hid hv3; clear hb3 hv3)
          | (go_at_call 167; (with_reducible refine (HCM.out _ HB3.out _ _ HV3.out HHI.out).mono ?_); rintro e w4 ⟨v4, rfl, hb4, hv4⟩; rw [HC.out] at hv4; subst hv4; have HB4 := Lib.hid (HB3.out.trans hb4); clear hb4))
        go_roundg gk'
        case measure => omega
        case rel =>
          have hj3 := HJ3.out
          have hj4 := HJ4.out
          exact ⟨hi, hi + St, St * 2, j + 1, by go_num, by go_num, by go_num, hok, by omega, by omega, by rw [HJ.out, Nat.pow_succ], by omega, by omega, HB4.out⟩
      · have hdc : decide (cmpN (n * hi) r ≤ 0) = false := by rw [hcd]; exact decide_eq_false (fun h => hok (HQ.1 h))
        obtain ⟨C, hC⟩ : ∃ C, cmpN (n * hi) r = C := ⟨_, rfl⟩
        have HC := Lib.hid hC
        rw [hC] at hdc
        have hC0 : ¬ C ≤ 0 := of_decide_eq_false hdc
        obtain ⟨H, hH⟩ : ∃ H, min hi 4294967296 = H := ⟨_, rfl⟩
        have hmin : min (hi : Int) 4294967296 = (H : Int) := by omega
        have hH1 : Q < H := by omega
        have hH2 : H ≤ 4294967296 := by omega
        clear hcd HQ hC hdc hH
        go_wp2_with (first
          | (go_at_call 74; (with_reducible refine HO1.out.mono ?_); rintro e w2 ⟨v2, rfl, hb2, hv2⟩; have HB2 := Lib.hid (HBW.out.trans hb2); have HV2 := Lib.hid hv2; clear hb2 hv2)
          | (go_at_call 131; (with_reducible refine (HMU.out _ HB2.out _ _ HV2.out HHI.out).mono ?_); rintro e w3 ⟨v3, rfl, hb3, hv3⟩; have HB3 := Lib.hid (HB2.out.trans hb3); have HV3 := Lib.hid hv3; clear hb3 hv3)
          | (go_at_call 167; (with_reducible refine (HCM.out _ HB3.out _ _ HV3.out HHI.out).mono ?_); rintro e w4 ⟨v4, rfl, hb4, hv4⟩; rw [HC.out] at hv4; subst hv4; have HB4 := Lib.hid (HB3.out.trans hb4); clear hb4))
        clear hSt hS2 hhi hok hlh HO1 HJ hj2 hj3 hDi hDB hlow hmin HBW HB2 HB3 HV2 HV3
        go_loopg [8, 9] 4294967296 (fun gf s8 s9 wx => ∃ (lo hi : Nat), s8 = .int .u64 (lo : Int) ∧ s9 = .int .u64 (hi : Int) ∧ lo ≤ Q ∧ Q < hi ∧ hi ≤ 4294967296 ∧ hi ≤ lo + gf ∧ Bel w wx)
        case atStart => exact ⟨lo, H, rfl, rfl, hlo, hH1, hH2, by omega, HB4.out⟩
        case round =>
          clear hlo hH1 hH2 HB4
          obtain ⟨lo, hi, rfl, rfl, hlo, hhi, hh2, hhg, hbw⟩ := hrel
          have HBW := Lib.hid hbw
          clear hbw
          by_cases hgo : 1 < hi - lo
          · obtain ⟨gk', rfl⟩ : ∃ g, gk = g + 1 := ⟨gk - 1, by omega⟩
            obtain ⟨Hh, hHh⟩ : ∃ Hh, (hi - lo) / 2 = Hh := ⟨_, rfl⟩
            have hHi : ((hi : Int) - (lo : Int)) / 2 = (Hh : Int) := by omega
            obtain ⟨M, hM⟩ : ∃ M, lo + Hh = M := ⟨_, rfl⟩
            have hMi : (lo : Int) + (Hh : Int) = (M : Int) := by omega
            have hM1 : lo < M := by omega
            have hM2 : M < hi := by omega
            have hgo' : (1 : Int) < (hi : Int) - (lo : Int) := by omega
            have hMB : M < 18446744073709551616 := by omega
            have HMB : Hid (M < B64) := hMB
            have HO1 := Lib.hid (HOF.out wr M hMB)
            have HQ := HOK.out M
            have hcd := @cmpN_le (n * M) r
            clear hgo
            by_cases hok : M ≤ Q
            · have hdc : decide (cmpN (n * M) r ≤ 0) = true := by rw [hcd]; exact decide_eq_true (HQ.2 hok)
              obtain ⟨C2, hC2⟩ : ∃ C, cmpN (n * M) r = C := ⟨_, rfl⟩
              have HC2 := Lib.hid hC2
              rw [hC2] at hdc
              have hC0 : C2 ≤ 0 := of_decide_eq_true hdc
              clear hcd HQ hC2 hdc
              go_wp2_with (first
                | (go_at_call 74; (with_reducible refine HO1.out.mono ?_); rintro e w2 ⟨v2, rfl, hb2, hv2⟩; have HB2 := Lib.hid (HBW.out.trans hb2); have HV2 := Lib.hid hv2; clear hb2 hv2)
                | (go_at_call 131; (with_reducible refine (HMU.out _ HB2.out _ _ HV2.out HMB.out).mono ?_); rintro e w3 ⟨v3, rfl, hb3, hv3⟩; have HB3 := Lib.hid (HB2.out.trans hb3); have HV3 := Lib.hid hv3; clear hb3 hv3)
                | (go_at_call 167; (with_reducible refine (HCM.out _ HB3.out _ _ HV3.out HMB.out).mono ?_); rintro e w4 ⟨v4, rfl, hb4, hv4⟩; rw [HC2.out] at hv4; subst hv4; have HB4 := Lib.hid (HB3.out.trans hb4); clear hb4))
              go_roundg gk'
              case measure => omega
              case rel => exact ⟨M, hi, rfl, rfl, hok, hhi, hh2, by omega, HB4.out⟩
            · have hdc : decide (cmpN (n * M) r ≤ 0) = false := by rw [hcd]; exact decide_eq_false (fun h => hok (HQ.1 h))
              obtain ⟨C2, hC2⟩ : ∃ C, cmpN (n * M) r = C := ⟨_, rfl⟩
              have HC2 := Lib.hid hC2
              rw [hC2] at hdc
              have hC0 : ¬ C2 ≤ 0 := of_decide_eq_false hdc
              clear hcd HQ hC2 hdc
              go_wp2_with (first
                | (go_at_call 74; (with_reducible refine HO1.out.mono ?_); rintro e w2 ⟨v2, rfl, hb2, hv2⟩; have HB2 := Lib.hid (HBW.out.trans hb2); have HV2 := Lib.hid hv2; clear hb2 hv2)
                | (go_at_call 131; (with_reducible refine (HMU.out _ HB2.out _ _ HV2.out HMB.out).mono ?_); rintro e w3 ⟨v3, rfl, hb3, hv3⟩; have HB3 := Lib.hid (HB2.out.trans hb3); have HV3 := Lib.hid hv3; clear hb3 hv3)
                | (go_at_call 167; (with_reducible refine (HCM.out _ HB3.out _ _ HV3.out HMB.out).mono ?_); rintro e w4 ⟨v4, rfl, hb4, hv4⟩; rw [HC2.out] at hv4; subst hv4; have HB4 := Lib.hid (HB3.out.trans hb4); clear hb4))
              go_roundg gk'
              case measure => omega
              case rel => exact ⟨lo, M, rfl, rfl, hlo, by omega, by omega, by omega, HB4.out⟩
          · obtain rfl : lo = Q := by omega
            have hgo' : ¬ (1 : Int) < (hi : Int) - (lo : Int) := by omega
            have hwq : IntKind.u32.wrap (lo : Int) = (lo : Int) := by rw [IntKind.wrap_u32]; omega
            go_wp2
            go_ret
            exact ⟨_, rfl, HBW.out, rfl⟩
  · have htr := top_one hk
    obtain ⟨b1, o1, c1', he, hc1, q1, hX1⟩ := r1.at (limb_get (i := m) (by omega))
    simp only [Value.slice.injEq] at he
    obtain ⟨rfl, _, rfl⟩ := he
    obtain ⟨T, hT⟩ : ∃ T, r / B32 ^ m = T := ⟨_, rfl⟩
    rw [htr, hT] at hX1 q1
    rw [hT] at hlow
    have hTT : T < 18446744073709551616 := by
      have : T < 4294967296 := hX1
      omega
    have hX1' : T < 4294967296 := hX1
    rw [hk] at HCM hc1 ⊢
    rw [hkb] at HMU HCM hc2 hc1 ⊢
    clear hX1 r1 r2 hk hm hkb hnl hrl hn1 hqB htn hT hbt htr hle hlt hQ hYB hTB
    obtain ⟨D, hD⟩ : ∃ D, T / (bt + 1) = D := ⟨_, rfl⟩
    rw [hD] at hlow
    have hDi : (T : Int) / ((bt : Int) + 1) = (D : Int) := by rw [← hD]; rfl
    have hDB : D < 4294967296 := by omega
    clear hD h0
    go_enter Tryz.func169, Tryz.ntmps169
    go_wp2
    go_loopg [8, 9, 10] 33 (fun gf s8 s9 s10 wx => ∃ (lo hi St j : Nat), s8 = .int .u64 (lo : Int) ∧ s9 = .int .u64 (hi : Int) ∧ s10 = .int .u64 (St : Int) ∧ lo ≤ Q ∧ lo ≤ hi ∧ hi + 1 = D + St ∧ St = 2 ^ j ∧ j ≤ 33 ∧ 33 ≤ j + gf ∧ Bel w wx)
    case atStart => exact ⟨D, D, 1, 0, rfl, rfl, rfl, hlow, Nat.le_refl _, rfl, rfl, by decide, by decide, Bel.refl w⟩
    case round =>
      obtain ⟨lo, hi, St, j, rfl, rfl, rfl, hlo, hlh, hSt, hj, hj2, hj3, hbw⟩ := hrel
      have HBW := Lib.hid hbw
      have HJ := Lib.hid hj
      have hS2 : St ≤ 8589934592 := by rw [hj]; exact Nat.pow_le_pow_right (n := 2) (by decide) hj2
      have hhi : hi < 18446744073709551616 := by omega
      have HHI : Hid (hi < B64) := hhi
      have hOF := HOF.out wr hi hhi
      have HO1 := Lib.hid hOF
      have HQ := HOK.out hi
      have hcd := @cmpN_le (n * hi) r
      clear hbw hj hOF
      by_cases hok : hi ≤ Q
      · have hdc : decide (cmpN (n * hi) r ≤ 0) = true := by rw [hcd]; exact decide_eq_true (HQ.2 hok)
        obtain ⟨C, hC⟩ : ∃ C, cmpN (n * hi) r = C := ⟨_, rfl⟩
        have HC := Lib.hid hC
        rw [hC] at hdc
        have hC0 : C ≤ 0 := of_decide_eq_true hdc
        have hgk : 0 < gk := Nat.pos_of_ne_zero fun h => by
          have hjj : j = 33 := by omega
          have := HJ.out
          rw [hjj] at this
          omega
        obtain ⟨gk', rfl⟩ : ∃ g, gk = g + 1 := ⟨gk - 1, by omega⟩
        have hj4 : j < 33 := Nat.lt_of_not_le fun h => by
          have hjj : j = 33 := by omega
          have := HJ.out
          rw [hjj] at this
          omega
        have HJ2 := Lib.hid hj2
        have HJ3 := Lib.hid hj3
        have HJ4 := Lib.hid hj4
        have hdd : decide ((hi : Int) < 4294967296) = true := decide_eq_true (by omega)
        clear hcd HQ hC hdc hj2 hj3 hj4 hgk
        go_wp2_with (first
          | (go_at_call 74; (with_reducible refine HO1.out.mono ?_); rintro e w2 ⟨v2, rfl, hb2, hv2⟩; have HB2 := Lib.hid (HBW.out.trans hb2); have HV2 := Lib.hid hv2; clear hb2 hv2)
          | (go_at_call 131; (with_reducible refine (HMU.out _ HB2.out _ _ HV2.out HHI.out).mono ?_); rintro e w3 ⟨v3, rfl, hb3, hv3⟩; have HB3 := Lib.hid (HB2.out.trans hb3); have HV3 := Lib.hid hv3; clear hb3 hv3)
          | (go_at_call 167; (with_reducible refine (HCM.out _ HB3.out _ _ HV3.out HHI.out).mono ?_); rintro e w4 ⟨v4, rfl, hb4, hv4⟩; rw [HC.out] at hv4; subst hv4; have HB4 := Lib.hid (HB3.out.trans hb4); clear hb4))
        go_roundg gk'
        case measure => omega
        case rel =>
          have hj3 := HJ3.out
          have hj4 := HJ4.out
          exact ⟨hi, hi + St, St * 2, j + 1, by go_num, by go_num, by go_num, hok, by omega, by omega, by rw [HJ.out, Nat.pow_succ], by omega, by omega, HB4.out⟩
      · have hdc : decide (cmpN (n * hi) r ≤ 0) = false := by rw [hcd]; exact decide_eq_false (fun h => hok (HQ.1 h))
        obtain ⟨C, hC⟩ : ∃ C, cmpN (n * hi) r = C := ⟨_, rfl⟩
        have HC := Lib.hid hC
        rw [hC] at hdc
        have hC0 : ¬ C ≤ 0 := of_decide_eq_false hdc
        obtain ⟨H, hH⟩ : ∃ H, min hi 4294967296 = H := ⟨_, rfl⟩
        have hmin : min (hi : Int) 4294967296 = (H : Int) := by omega
        have hH1 : Q < H := by omega
        have hH2 : H ≤ 4294967296 := by omega
        clear hcd HQ hC hdc hH
        go_wp2_with (first
          | (go_at_call 74; (with_reducible refine HO1.out.mono ?_); rintro e w2 ⟨v2, rfl, hb2, hv2⟩; have HB2 := Lib.hid (HBW.out.trans hb2); have HV2 := Lib.hid hv2; clear hb2 hv2)
          | (go_at_call 131; (with_reducible refine (HMU.out _ HB2.out _ _ HV2.out HHI.out).mono ?_); rintro e w3 ⟨v3, rfl, hb3, hv3⟩; have HB3 := Lib.hid (HB2.out.trans hb3); have HV3 := Lib.hid hv3; clear hb3 hv3)
          | (go_at_call 167; (with_reducible refine (HCM.out _ HB3.out _ _ HV3.out HHI.out).mono ?_); rintro e w4 ⟨v4, rfl, hb4, hv4⟩; rw [HC.out] at hv4; subst hv4; have HB4 := Lib.hid (HB3.out.trans hb4); clear hb4))
        clear hSt hS2 hhi hok hlh HO1 HJ hj2 hj3 hDi hDB hlow hmin HBW HB2 HB3 HV2 HV3
        go_loopg [8, 9] 4294967296 (fun gf s8 s9 wx => ∃ (lo hi : Nat), s8 = .int .u64 (lo : Int) ∧ s9 = .int .u64 (hi : Int) ∧ lo ≤ Q ∧ Q < hi ∧ hi ≤ 4294967296 ∧ hi ≤ lo + gf ∧ Bel w wx)
        case atStart => exact ⟨lo, H, rfl, rfl, hlo, hH1, hH2, by omega, HB4.out⟩
        case round =>
          clear hlo hH1 hH2 HB4
          obtain ⟨lo, hi, rfl, rfl, hlo, hhi, hh2, hhg, hbw⟩ := hrel
          have HBW := Lib.hid hbw
          clear hbw
          by_cases hgo : 1 < hi - lo
          · obtain ⟨gk', rfl⟩ : ∃ g, gk = g + 1 := ⟨gk - 1, by omega⟩
            obtain ⟨Hh, hHh⟩ : ∃ Hh, (hi - lo) / 2 = Hh := ⟨_, rfl⟩
            have hHi : ((hi : Int) - (lo : Int)) / 2 = (Hh : Int) := by omega
            obtain ⟨M, hM⟩ : ∃ M, lo + Hh = M := ⟨_, rfl⟩
            have hMi : (lo : Int) + (Hh : Int) = (M : Int) := by omega
            have hM1 : lo < M := by omega
            have hM2 : M < hi := by omega
            have hgo' : (1 : Int) < (hi : Int) - (lo : Int) := by omega
            have hMB : M < 18446744073709551616 := by omega
            have HMB : Hid (M < B64) := hMB
            have HO1 := Lib.hid (HOF.out wr M hMB)
            have HQ := HOK.out M
            have hcd := @cmpN_le (n * M) r
            clear hgo
            by_cases hok : M ≤ Q
            · have hdc : decide (cmpN (n * M) r ≤ 0) = true := by rw [hcd]; exact decide_eq_true (HQ.2 hok)
              obtain ⟨C2, hC2⟩ : ∃ C, cmpN (n * M) r = C := ⟨_, rfl⟩
              have HC2 := Lib.hid hC2
              rw [hC2] at hdc
              have hC0 : C2 ≤ 0 := of_decide_eq_true hdc
              clear hcd HQ hC2 hdc
              go_wp2_with (first
                | (go_at_call 74; (with_reducible refine HO1.out.mono ?_); rintro e w2 ⟨v2, rfl, hb2, hv2⟩; have HB2 := Lib.hid (HBW.out.trans hb2); have HV2 := Lib.hid hv2; clear hb2 hv2)
                | (go_at_call 131; (with_reducible refine (HMU.out _ HB2.out _ _ HV2.out HMB.out).mono ?_); rintro e w3 ⟨v3, rfl, hb3, hv3⟩; have HB3 := Lib.hid (HB2.out.trans hb3); have HV3 := Lib.hid hv3; clear hb3 hv3)
                | (go_at_call 167; (with_reducible refine (HCM.out _ HB3.out _ _ HV3.out HMB.out).mono ?_); rintro e w4 ⟨v4, rfl, hb4, hv4⟩; rw [HC2.out] at hv4; subst hv4; have HB4 := Lib.hid (HB3.out.trans hb4); clear hb4))
              go_roundg gk'
              case measure => omega
              case rel => exact ⟨M, hi, rfl, rfl, hok, hhi, hh2, by omega, HB4.out⟩
            · have hdc : decide (cmpN (n * M) r ≤ 0) = false := by rw [hcd]; exact decide_eq_false (fun h => hok (HQ.1 h))
              obtain ⟨C2, hC2⟩ : ∃ C, cmpN (n * M) r = C := ⟨_, rfl⟩
              have HC2 := Lib.hid hC2
              rw [hC2] at hdc
              have hC0 : ¬ C2 ≤ 0 := of_decide_eq_false hdc
              clear hcd HQ hC2 hdc
              go_wp2_with (first
                | (go_at_call 74; (with_reducible refine HO1.out.mono ?_); rintro e w2 ⟨v2, rfl, hb2, hv2⟩; have HB2 := Lib.hid (HBW.out.trans hb2); have HV2 := Lib.hid hv2; clear hb2 hv2)
                | (go_at_call 131; (with_reducible refine (HMU.out _ HB2.out _ _ HV2.out HMB.out).mono ?_); rintro e w3 ⟨v3, rfl, hb3, hv3⟩; have HB3 := Lib.hid (HB2.out.trans hb3); have HV3 := Lib.hid hv3; clear hb3 hv3)
                | (go_at_call 167; (with_reducible refine (HCM.out _ HB3.out _ _ HV3.out HMB.out).mono ?_); rintro e w4 ⟨v4, rfl, hb4, hv4⟩; rw [HC2.out] at hv4; subst hv4; have HB4 := Lib.hid (HB3.out.trans hb4); clear hb4))
              go_roundg gk'
              case measure => omega
              case rel => exact ⟨lo, M, rfl, rfl, hlo, by omega, by omega, by omega, HB4.out⟩
          · obtain rfl : lo = Q := by omega
            have hgo' : ¬ (1 : Int) < (hi : Int) - (lo : Int) := by omega
            have hwq : IntKind.u32.wrap (lo : Int) = (lo : Int) := by rw [IntKind.wrap_u32]; omega
            go_wp2
            go_ret
            exact ⟨_, rfl, HBW.out, rfl⟩
/-- A number whose nil has no room. -/
def NRZ (w : World) (v : Value) (n : Nat) : Prop := NR w v n ∧ ∀ k c, v = .slice none k c → c = 0
theorem NRZ.bel {w w' : World} {v : Value} {n : Nat} (h : NRZ w v n) (hb : Bel w w') : NRZ w' v n := ⟨h.1.bel hb, h.2⟩
theorem nrz_nil (w : World) : NRZ w (.slice none 0 0) 0 := ⟨nr_nil w, fun k c h => by simp only [Value.slice.injEq] at h; exact h.2.2.symm⟩
theorem nrz_of {w w' : World} {p : Option Addr} {c n : Nat} (h : O32 w' w.heap.size (.slice p (limB B32 n).length c) (limB B32 n)) : NRZ w' (.slice p (limB B32 n).length c) n := by
  refine ⟨nr_of h, fun k c' he => ?_⟩
  simp only [Value.slice.injEq] at he
  obtain ⟨rfl, -, rfl⟩ := he
  rcases h.1.2 with ⟨h1, _⟩ | ⟨g', cap', cur, h1, _⟩
  · simp only [Value.slice.injEq] at h1
    exact h1.2.2
  · cases h1
theorem mk_r1subz {w : World} {a b : Value} {m n : Nat} (ha : NR w a m) (hb : NR w b n) (hm : (limB B32 m).length < 1000000000) (hn : n ≤ m) : Calls Tryz.prog 170 #[a, b] w (Makes w fun v w' => NRZ w' v (m - n)) := by
  obtain ⟨p1, c1, rfl, r1, -⟩ := ha
  obtain ⟨p2, c2, rfl, r2, -⟩ := hb
  refine (rsub_any p1 p2 c1 c2 _ _ w r1 r2 hm (lim_mono hn) (by simp only [val_lim b32_two]; exact hn)).mono ?_
  rintro e w' ⟨p, c, rfl, ho, hb⟩
  simp only [val_lim b32_two] at ho ⊢
  exact ⟨_, rfl, hb, nrz_of ho⟩
theorem lit_own {w0 W : World} (hb : Bel w0 W) {y : Nat} (hy : y < B32) : O32 (W.alloc (.cells #[.int .u32 (y : Int)] 135)) w0.heap.size (.slice (some ⟨W.heap.size, 0, none⟩) 1 1) [y] := by
  refine ⟨⟨by simp, .inr ⟨W.heap.size, 1, #[.int .u32 (y : Int)], rfl, hb.size, heap_alloc_new W _, by simp, by unfold maxLen; omega, by simp, by simp [lmV]⟩⟩, fun z hz => by simp at hz; omega⟩
theorem nr_lit (W : World) {y : Nat} (h0 : 0 < y) (hy : y < B32) : NR (W.alloc (.cells #[.int .u32 (y : Int)] 135)) (.slice (some ⟨W.heap.size, 0, none⟩) 1 1) y := by
  have h := (lit_own (Bel.refl W) hy).row
  refine ⟨some ⟨W.heap.size, 0, none⟩, 1, by rw [lim_small b32_two h0 hy]; rfl, ?_, .inr ⟨_, _, rfl⟩⟩
  rw [lim_small b32_two h0 hy]
  exact h
theorem wpList_lead32 {W w0 : World} {ops : Array Oper} {rest : List Oper} {o : Oper} {a : Act} {Q : Exit → Act → World → Prop} (hgd : o.guard = none) (s x : Operand)
    (ho : o.op = .call { callee := .builtin .append, args := #[s, x], argTypes := #[33, 33] }) (hs : a.eval s = .slice (some ⟨W.heap.size, 0, none⟩) 1 1) (v : Value) (hx : a.eval x = v)
    (y r : Nat) (hy : y < B32) (hv : NRZ W v r) (hl : (limB B32 r).length < 1000000000) (hb : Bel w0 W)
    (h : ∀ g' c w', O32 w' w0.heap.size (.slice (some ⟨g', 0, none⟩) ((limB B32 r).length + 1) c) (y :: limB B32 r) → Bel w0 w' → wpList Tryz.prog ops Q rest (a.put o.dst (.slice (some ⟨g', 0, none⟩) ((limB B32 r).length + 1) c)) w') :
    wpList Tryz.prog ops Q (o :: rest) a (W.alloc (.cells #[.int .u32 (y : Int)] 135)) := by
  obtain ⟨i0, hi, hz0, hz1, hz2⟩ := info_parts infoU32
  have hown := lit_own hb hy
  have hb1 : Bel w0 (W.alloc (.cells #[.int .u32 (y : Int)] 135)) := hb.alloc _
  have hv1 := hv.1.bel ((Bel.refl W).alloc (.cells #[.int .u32 (y : Int)] 135))
  obtain ⟨p, c, rfl, hr, hp⟩ := hv1
  have hall := hr.all
  obtain ⟨l, hle⟩ : ∃ l, limB B32 r = l := ⟨_, rfl⟩
  rw [hle] at hx hl hr hall h
  have hz := hv.2
  rw [hle] at hz
  have hfin : ∀ v' w', w'.ownsRow w0.heap.size 135 1 v' (1 + l.length) ([lmV .u32 y] ++ l.map (lmV .u32)) → Bel w0 w' → wpList Tryz.prog ops Q rest (a.put o.dst v') w' := fun v' w' ho' hb' => by
    rcases ho'.2 with ⟨_, h0⟩ | ⟨g', cap, cur, rfl, hbb, rest'⟩
    · omega
    · rw [Nat.add_comm 1 l.length] at ho' ⊢
      exact h g' cap w' ⟨ho', fun z hz => by
        rcases List.mem_cons.1 hz with rfl | hz
        · exact hy
        · exact hall z hz⟩ hb'
  rcases hp with rfl | ⟨g, o', rfl⟩
  · have h0 : l = [] := by
      by_cases h0 : l = []
      · exact h0
      · obtain ⟨p', c', he, _, _, h4⟩ := hr
        obtain ⟨b', o'', rfl, _⟩ := h4 h0
        simp only [Value.slice.injEq] at he
        exact absurd he.1 (by simp)
    subst h0
    have hc0 := hz _ _ rfl
    subst hc0
    exact wpList_append_own_none hgd s x 33 ho w0.heap.size 135 i0 1 Tryz.underlying33 hi _ 1 _ hs hown.1 hx (hfin _ _ (by simpa using hown.1) hb1)
  · refine wpList_append_own _ hgd s x 33 ho w0.heap.size 135 i0 _ 1 4 Tryz.underlying33 hi hz0 hz1 hz2 rfl (by decide) _ 1 _ hs hown.1 ⟨g, o', none⟩ l.length c (l.map (lmV .u32)) hx (by simp) ?_ ?_ (by unfold maxLen; omega) (by omega) hb1.size ?_
    · intro j u hj
      rw [List.getElem?_map] at hj
      cases hyj : l[j]? with
      | none => rw [hyj] at hj; cases hj
      | some z =>
        rw [hyj] at hj
        simp only [Option.map_some, Option.some.injEq] at hj
        subst hj
        obtain ⟨b', o'', c', he, _, hq, _⟩ := hr.at hyj
        simp only [Value.slice.injEq, Option.some.injEq, Addr.mk.injEq, and_true] at he
        obtain ⟨⟨rfl, rfl⟩, -, -⟩ := he
        rw [Addr.add_lit]
        exact hq
    · intro u hu
      obtain ⟨z, _, rfl⟩ := List.mem_map.1 hu
      rfl
    · intro v' w' ho' hg' _
      exact hfin v' w' ho' (grown_bel hb1 hown.1 (Nat.le_refl _) hg')
end Go.Proofs.YtafmfnpjhhaikaaGreatDoor
