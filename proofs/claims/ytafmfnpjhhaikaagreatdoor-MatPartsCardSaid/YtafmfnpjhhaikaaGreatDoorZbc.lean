/-
  gessolaw09.MatParts (printed by gen_ld.py).
-/
import Derived.Test.YtafmfnpjhhaikaaGreatDoorZbb
namespace Go.Proofs.YtafmfnpjhhaikaaGreatDoor
open Go.RowKit Go.Shelf

set_option maxHeartbeats 4000000 in
set_option maxRecDepth 100000 in
theorem matParts_fair {w : World} (mx my mz : Rp) (p : Rp) (q : Rp) {am bm cm dm em fm : Rat} {xp yp : Rat} {xq yq : Rat} (hm : MS 6 w (.agg (mx.row ++ my.row ++ mz.row).toArray) am bm cm dm em fm) (hp : PS 6 w (.agg p.row.toArray) xp yp) (hq : PS 6 w (.agg q.row.toArray) xq yq) (HFm : [mx, my, mz].all (Rp.ok 6) = true) (HFAIR : [p, q].all (Rp.ok 6) = true) : Calls Tryz.prog 10 #[.agg (mx.row ++ my.row ++ mz.row).toArray, .agg p.row.toArray, .agg q.row.toArray] w (Makes w fun v _ => v = .bool true) := by
  obtain ⟨sm1, pm1, km1, cm1, qm1, jm1, dm1, sm2, pm2, km2, cm2, qm2, jm2, dm2⟩ := mx
  obtain ⟨sm3, pm3, km3, cm3, qm3, jm3, dm3, sm4, pm4, km4, cm4, qm4, jm4, dm4⟩ := my
  obtain ⟨sm5, pm5, km5, cm5, qm5, jm5, dm5, sm6, pm6, km6, cm6, qm6, jm6, dm6⟩ := mz
  obtain ⟨sp1, pp1, kp1, cp1, qp1, jp1, dp1, sp2, pp2, kp2, cp2, qp2, jp2, dp2⟩ := p
  obtain ⟨sq1, pq1, kq1, cq1, qq1, jq1, dq1, sq2, pq2, kq2, cq2, qq2, jq2, dq2⟩ := q
  simp only [Rp.row, List.cons_append, List.nil_append] at hm hp hq ⊢
  have HPm := Lib.hid hm
  have HPm1 := Lib.hid hm.split.1
  have HPm2 := Lib.hid hm.split.2.1
  have HPm3 := Lib.hid hm.split.2.2.1
  have HPm4 := Lib.hid hm.split.2.2.2.1
  have HPm5 := Lib.hid hm.split.2.2.2.2.1
  have HPm6 := Lib.hid hm.split.2.2.2.2.2
  clear hm
  have HPp := Lib.hid hp
  have HPp1 := Lib.hid hp.split.1
  have HPp2 := Lib.hid hp.split.2
  clear hp
  have HPq := Lib.hid hq
  have HPq1 := Lib.hid hq.split.1
  have HPq2 := Lib.hid hq.split.2
  clear hq
  have HC1_1 : Hid (∀ X, Calls Tryz.prog 51 #[.agg #[.bool sm1, .slice pm1 km1 cm1, .slice qm1 jm1 dm1, .bool sm2, .slice pm2 km2 cm2, .slice qm2 jm2 dm2, .bool sm3, .slice pm3 km3 cm3, .slice qm3 jm3 dm3, .bool sm4, .slice pm4 km4 cm4, .slice qm4 jm4 dm4, .bool sm5, .slice pm5 km5 cm5, .slice qm5 jm5 dm5, .bool sm6, .slice pm6 km6 cm6, .slice qm6 jm6 dm6]] X (Makes X (fun v _ => v = .bool true))) := fun X => au_fair09 ⟨sm1, pm1, km1, cm1, qm1, jm1, dm1, sm2, pm2, km2, cm2, qm2, jm2, dm2⟩ ⟨sm3, pm3, km3, cm3, qm3, jm3, dm3, sm4, pm4, km4, cm4, qm4, jm4, dm4⟩ ⟨sm5, pm5, km5, cm5, qm5, jm5, dm5, sm6, pm6, km6, cm6, qm6, jm6, dm6⟩ X _ HFm
  have HC1_7 : Hid (∀ X u0, RpSl [⟨sp1, pp1, kp1, cp1, qp1, jp1, dp1, sp2, pp2, kp2, cp2, qp2, jp2, dp2⟩, ⟨sq1, pq1, kq1, cq1, qq1, jq1, dq1, sq2, pq2, kq2, cq2, qq2, jq2, dq2⟩] u0 X → Calls Tryz.prog 12 #[u0] X (Makes X (fun v _ => v = .bool true))) := fun X u0 h0 => au_fair h0 (by simp) HFAIR
  obtain ⟨R1, hR1⟩ : ∃ Z, ((0 : Int) : Rat) = Z := ⟨_, rfl⟩
  obtain ⟨R2, hR2⟩ : ∃ Z, ((0 : Int) : Rat) = Z := ⟨_, rfl⟩
  have HC3_1 : Hid (∀ X, Calls Tryz.prog 43 #[.int .i64 0, .int .i64 0] X (Makes X (fun v w => PN 1 w v R1 R2))) := fun X => by subst hR1 hR2; exact au_P (p := 0) (q := 0) (by decide) (by decide) (by decide) (by decide) X
  obtain ⟨R3, hR3⟩ : ∃ Z, (((am) * R1) + ((cm) * R2)) + (em) = Z := ⟨_, rfl⟩
  obtain ⟨R4, hR4⟩ : ∃ Z, (((bm) * R1) + ((dm) * R2)) + (fm) = Z := ⟨_, rfl⟩
  have HC3_2 : Hid (∀ X u0 u1, MS 6 X u0 am bm cm dm em fm → PN 1 X u1 R1 R2 → Calls Tryz.prog 59 #[u0, u1] X (Makes X (fun v w => PN 22 w v R3 R4))) := fun X u0 u1 h0 h1 => by subst hR3 hR4; exact au_mapply (nm := 6) (np := 1) h0 (h1.ps (by decide)) (by decide)
  obtain ⟨R5, hR5⟩ : ∃ Z, (((am) * xp) + ((cm) * yp)) + (em) = Z := ⟨_, rfl⟩
  obtain ⟨R6, hR6⟩ : ∃ Z, (((bm) * xp) + ((dm) * yp)) + (fm) = Z := ⟨_, rfl⟩
  have HC4_2 : Hid (∀ X u0 u1, MS 6 X u0 am bm cm dm em fm → PS 6 X u1 xp yp → Calls Tryz.prog 59 #[u0, u1] X (Makes X (fun v w => PN 32 w v R5 R6))) := fun X u0 u1 h0 h1 => by subst hR5 hR6; exact au_mapply (nm := 6) (np := 6) h0 h1 (by decide)
  obtain ⟨R7, hR7⟩ : ∃ Z, (((am) * xq) + ((cm) * yq)) + (em) = Z := ⟨_, rfl⟩
  obtain ⟨R8, hR8⟩ : ∃ Z, (((bm) * xq) + ((dm) * yq)) + (fm) = Z := ⟨_, rfl⟩
  have HC4_5 : Hid (∀ X u0 u1, MS 6 X u0 am bm cm dm em fm → PS 6 X u1 xq yq → Calls Tryz.prog 59 #[u0, u1] X (Makes X (fun v w => PN 32 w v R7 R8))) := fun X u0 u1 h0 h1 => by subst hR7 hR8; exact au_mapply (nm := 6) (np := 6) h0 h1 (by decide)
  obtain ⟨R9, hR9⟩ : ∃ Z, R5 + R7 = Z := ⟨_, rfl⟩
  obtain ⟨R10, hR10⟩ : ∃ Z, R6 + R8 = Z := ⟨_, rfl⟩
  have HC4_6 : Hid (∀ X u0 u1, PN 32 X u0 R5 R6 → PN 32 X u1 R7 R8 → Calls Tryz.prog 21 #[u0, u1] X (Makes X (fun v w => PN 65 w v R9 R10))) := fun X u0 u1 h0 h1 => by subst hR9 hR10; exact au_padd (i := 32) (j := 32) (h0.ps (by decide)) (h1.ps (by decide)) (by decide)
  obtain ⟨R11, hR11⟩ : ∃ Z, R9 - R3 = Z := ⟨_, rfl⟩
  obtain ⟨R12, hR12⟩ : ∃ Z, R10 - R4 = Z := ⟨_, rfl⟩
  have HC4_8 : Hid (∀ X u0 u1, PN 65 X u0 R9 R10 → PN 22 X u1 R3 R4 → Calls Tryz.prog 23 #[u0, u1] X (Makes X (fun v w => PN 88 w v R11 R12))) := fun X u0 u1 h0 h1 => by subst hR11 hR12; exact au_psub (i := 65) (j := 22) (h0.ps (by decide)) (h1.ps (by decide)) (by decide)
  obtain ⟨R13, hR13⟩ : ∃ Z, ((1 : Int) : Rat) = Z := ⟨_, rfl⟩
  obtain ⟨R14, hR14⟩ : ∃ Z, ((0 : Int) : Rat) = Z := ⟨_, rfl⟩
  have HC5_1 : Hid (∀ X, Calls Tryz.prog 43 #[.int .i64 1, .int .i64 0] X (Makes X (fun v w => PN 1 w v R13 R14))) := fun X => by subst hR13 hR14; exact au_P (p := 1) (q := 0) (by decide) (by decide) (by decide) (by decide) X
  obtain ⟨R15, hR15⟩ : ∃ Z, (((am) * R13) + ((cm) * R14)) + (em) = Z := ⟨_, rfl⟩
  obtain ⟨R16, hR16⟩ : ∃ Z, (((bm) * R13) + ((dm) * R14)) + (fm) = Z := ⟨_, rfl⟩
  have HC5_2 : Hid (∀ X u0 u1, MS 6 X u0 am bm cm dm em fm → PN 1 X u1 R13 R14 → Calls Tryz.prog 59 #[u0, u1] X (Makes X (fun v w => PN 22 w v R15 R16))) := fun X u0 u1 h0 h1 => by subst hR15 hR16; exact au_mapply (nm := 6) (np := 1) h0 (h1.ps (by decide)) (by decide)
  obtain ⟨R17, hR17⟩ : ∃ Z, R15 - R3 = Z := ⟨_, rfl⟩
  obtain ⟨R18, hR18⟩ : ∃ Z, R16 - R4 = Z := ⟨_, rfl⟩
  have HC5_4 : Hid (∀ X u0 u1, PN 22 X u0 R15 R16 → PN 22 X u1 R3 R4 → Calls Tryz.prog 23 #[u0, u1] X (Makes X (fun v w => PN 45 w v R17 R18))) := fun X u0 u1 h0 h1 => by subst hR17 hR18; exact au_psub (i := 22) (j := 22) (h0.ps (by decide)) (h1.ps (by decide)) (by decide)
  obtain ⟨R19, hR19⟩ : ∃ Z, ((0 : Int) : Rat) = Z := ⟨_, rfl⟩
  obtain ⟨R20, hR20⟩ : ∃ Z, ((1 : Int) : Rat) = Z := ⟨_, rfl⟩
  have HC6_1 : Hid (∀ X, Calls Tryz.prog 43 #[.int .i64 0, .int .i64 1] X (Makes X (fun v w => PN 1 w v R19 R20))) := fun X => by subst hR19 hR20; exact au_P (p := 0) (q := 1) (by decide) (by decide) (by decide) (by decide) X
  obtain ⟨R21, hR21⟩ : ∃ Z, (((am) * R19) + ((cm) * R20)) + (em) = Z := ⟨_, rfl⟩
  obtain ⟨R22, hR22⟩ : ∃ Z, (((bm) * R19) + ((dm) * R20)) + (fm) = Z := ⟨_, rfl⟩
  have HC6_2 : Hid (∀ X u0 u1, MS 6 X u0 am bm cm dm em fm → PN 1 X u1 R19 R20 → Calls Tryz.prog 59 #[u0, u1] X (Makes X (fun v w => PN 22 w v R21 R22))) := fun X u0 u1 h0 h1 => by subst hR21 hR22; exact au_mapply (nm := 6) (np := 1) h0 (h1.ps (by decide)) (by decide)
  obtain ⟨R23, hR23⟩ : ∃ Z, R21 - R3 = Z := ⟨_, rfl⟩
  obtain ⟨R24, hR24⟩ : ∃ Z, R22 - R4 = Z := ⟨_, rfl⟩
  have HC6_4 : Hid (∀ X u0 u1, PN 22 X u0 R21 R22 → PN 22 X u1 R3 R4 → Calls Tryz.prog 23 #[u0, u1] X (Makes X (fun v w => PN 45 w v R23 R24))) := fun X u0 u1 h0 h1 => by subst hR23 hR24; exact au_psub (i := 22) (j := 22) (h0.ps (by decide)) (h1.ps (by decide)) (by decide)
  obtain ⟨R25, hR25⟩ : ∃ Z, R17 * xp = Z := ⟨_, rfl⟩
  obtain ⟨R26, hR26⟩ : ∃ Z, R18 * xp = Z := ⟨_, rfl⟩
  have HC7_4 : Hid (∀ X u0 u1, PN 45 X u0 R17 R18 → RS 6 X u1 xp → Calls Tryz.prog 25 #[u0, u1] X (Makes X (fun v w => PN 51 w v R25 R26))) := fun X u0 u1 h0 h1 => by subst hR25 hR26; exact au_scale (i := 45) (j := 6) (h0.ps (by decide)) h1 (by decide)
  obtain ⟨R27, hR27⟩ : ∃ Z, R23 * yp = Z := ⟨_, rfl⟩
  obtain ⟨R28, hR28⟩ : ∃ Z, R24 * yp = Z := ⟨_, rfl⟩
  have HC7_8 : Hid (∀ X u0 u1, PN 45 X u0 R23 R24 → RS 6 X u1 yp → Calls Tryz.prog 25 #[u0, u1] X (Makes X (fun v w => PN 51 w v R27 R28))) := fun X u0 u1 h0 h1 => by subst hR27 hR28; exact au_scale (i := 45) (j := 6) (h0.ps (by decide)) h1 (by decide)
  obtain ⟨R29, hR29⟩ : ∃ Z, R25 + R27 = Z := ⟨_, rfl⟩
  obtain ⟨R30, hR30⟩ : ∃ Z, R26 + R28 = Z := ⟨_, rfl⟩
  have HC7_9 : Hid (∀ X u0 u1, PN 51 X u0 R25 R26 → PN 51 X u1 R27 R28 → Calls Tryz.prog 21 #[u0, u1] X (Makes X (fun v w => PN 103 w v R29 R30))) := fun X u0 u1 h0 h1 => by subst hR29 hR30; exact au_padd (i := 51) (j := 51) (h0.ps (by decide)) (h1.ps (by decide)) (by decide)
  obtain ⟨R31, hR31⟩ : ∃ Z, R3 + R29 = Z := ⟨_, rfl⟩
  obtain ⟨R32, hR32⟩ : ∃ Z, R4 + R30 = Z := ⟨_, rfl⟩
  have HC7_10 : Hid (∀ X u0 u1, PN 22 X u0 R3 R4 → PN 103 X u1 R29 R30 → Calls Tryz.prog 21 #[u0, u1] X (Makes X (fun v w => PN 126 w v R31 R32))) := fun X u0 u1 h0 h1 => by subst hR31 hR32; exact au_padd (i := 22) (j := 103) (h0.ps (by decide)) (h1.ps (by decide)) (by decide)
  obtain ⟨R33, hR33⟩ : ∃ Z, mkRat 65536 65536 = Z := ⟨_, rfl⟩
  obtain ⟨R34, hR34⟩ : ∃ Z, mkRat 0 65536 = Z := ⟨_, rfl⟩
  obtain ⟨R35, hR35⟩ : ∃ Z, mkRat 0 65536 = Z := ⟨_, rfl⟩
  obtain ⟨R36, hR36⟩ : ∃ Z, mkRat 65536 65536 = Z := ⟨_, rfl⟩
  obtain ⟨R37, hR37⟩ : ∃ Z, mkRat 96 64 = Z := ⟨_, rfl⟩
  obtain ⟨R38, hR38⟩ : ∃ Z, mkRat (-32) 64 = Z := ⟨_, rfl⟩
  have HC8_1 : Hid (∀ X, Calls Tryz.prog 67 #[.agg #[.int .i64 65536, .int .i64 0, .int .i64 0, .int .i64 65536, .int .i64 96, .int .i64 (-32)]] X (Makes X (fun v w => MN 1 w v R33 R34 R35 R36 R37 R38))) := fun X => by subst hR33 hR34 hR35 hR36 hR37 hR38; exact au_mOf (z0 := 65536) (z1 := 0) (z2 := 0) (z3 := 65536) (z4 := 96) (z5 := -32) (by decide) (by decide) (by decide) (by decide) (by decide) (by decide) (by decide) (by decide) (by decide) (by decide) (by decide) (by decide) X
  obtain ⟨R39, hR39⟩ : ∃ Z, (((R33) * xp) + ((R35) * yp)) + (R37) = Z := ⟨_, rfl⟩
  obtain ⟨R40, hR40⟩ : ∃ Z, (((R34) * xp) + ((R36) * yp)) + (R38) = Z := ⟨_, rfl⟩
  have HC8_3 : Hid (∀ X u0 u1, MN 1 X u0 R33 R34 R35 R36 R37 R38 → PS 6 X u1 xp yp → Calls Tryz.prog 59 #[u0, u1] X (Makes X (fun v w => PN 17 w v R39 R40))) := fun X u0 u1 h0 h1 => by subst hR39 hR40; exact au_mapply (nm := 1) (np := 6) (h0.ms (by decide)) h1 (by decide)
  obtain ⟨R41, hR41⟩ : ∃ Z, R39 - xp = Z := ⟨_, rfl⟩
  obtain ⟨R42, hR42⟩ : ∃ Z, R40 - yp = Z := ⟨_, rfl⟩
  have HC9_2 : Hid (∀ X u0 u1, PN 17 X u0 R39 R40 → PS 6 X u1 xp yp → Calls Tryz.prog 23 #[u0, u1] X (Makes X (fun v w => PN 24 w v R41 R42))) := fun X u0 u1 h0 h1 => by subst hR41 hR42; exact au_psub (i := 17) (j := 6) (h0.ps (by decide)) h1 (by decide)
  obtain ⟨R43, hR43⟩ : ∃ Z, xp + xq = Z := ⟨_, rfl⟩
  obtain ⟨R44, hR44⟩ : ∃ Z, yp + yq = Z := ⟨_, rfl⟩
  have HC10_3 : Hid (∀ X u0 u1, PS 6 X u0 xp yp → PS 6 X u1 xq yq → Calls Tryz.prog 21 #[u0, u1] X (Makes X (fun v w => PN 13 w v R43 R44))) := fun X u0 u1 h0 h1 => by subst hR43 hR44; exact au_padd (i := 6) (j := 6) h0 h1 (by decide)
  obtain ⟨R45, hR45⟩ : ∃ Z, (((am) * R43) + ((cm) * R44)) + (em) = Z := ⟨_, rfl⟩
  obtain ⟨R46, hR46⟩ : ∃ Z, (((bm) * R43) + ((dm) * R44)) + (fm) = Z := ⟨_, rfl⟩
  have HC10_4 : Hid (∀ X u0 u1, MS 6 X u0 am bm cm dm em fm → PN 13 X u1 R43 R44 → Calls Tryz.prog 59 #[u0, u1] X (Makes X (fun v w => PN 46 w v R45 R46))) := fun X u0 u1 h0 h1 => by subst hR45 hR46; exact au_mapply (nm := 6) (np := 13) h0 (h1.ps (by decide)) (by decide)
  obtain ⟨C1, hC1⟩ : ∃ Z, decide (R45 = R11 ∧ R46 = R12) = Z := ⟨_, rfl⟩
  have HC10_6 : Hid (∀ X u0 u1, PN 46 X u0 R45 R46 → PN 88 X u1 R11 R12 → Calls Tryz.prog 34 #[u0, u1] X (Makes X (fun v _ => v = .bool C1))) := fun X u0 u1 h0 h1 => by subst hC1; exact mk_same (i := 46) (j := 88) (h0.ps (by decide)) (h1.ps (by decide)) (by decide)
  obtain ⟨R47, hR47⟩ : ∃ Z, (((am) * xp) + ((cm) * yp)) + (em) = Z := ⟨_, rfl⟩
  obtain ⟨R48, hR48⟩ : ∃ Z, (((bm) * xp) + ((dm) * yp)) + (fm) = Z := ⟨_, rfl⟩
  have HC10_11 : Hid (∀ X u0 u1, MS 6 X u0 am bm cm dm em fm → PS 6 X u1 xp yp → Calls Tryz.prog 59 #[u0, u1] X (Makes X (fun v w => PN 32 w v R47 R48))) := fun X u0 u1 h0 h1 => by subst hR47 hR48; exact au_mapply (nm := 6) (np := 6) h0 h1 (by decide)
  obtain ⟨C2, hC2⟩ : ∃ Z, decide (R31 = R47 ∧ R32 = R48) = Z := ⟨_, rfl⟩
  have HC10_12 : Hid (∀ X u0 u1, PN 126 X u0 R31 R32 → PN 32 X u1 R47 R48 → Calls Tryz.prog 34 #[u0, u1] X (Makes X (fun v _ => v = .bool C2))) := fun X u0 u1 h0 h1 => by subst hC2; exact mk_same (i := 126) (j := 32) (h0.ps (by decide)) (h1.ps (by decide)) (by decide)
  obtain ⟨R49, hR49⟩ : ∃ Z, R17 * R24 - R18 * R23 = Z := ⟨_, rfl⟩
  have HC10_17 : Hid (∀ X u0 u1, PN 45 X u0 R17 R18 → PN 45 X u1 R23 R24 → Calls Tryz.prog 32 #[u0, u1] X (Makes X (fun v w => RN 181 w v R49))) := fun X u0 u1 h0 h1 => by subst hR49; exact au_cross (i := 45) (j := 45) (h0.ps (by decide)) (h1.ps (by decide)) (by decide)
  obtain ⟨R50, hR50⟩ : ∃ Z, (am) * (dm) - (bm) * (cm) = Z := ⟨_, rfl⟩
  have HC10_19 : Hid (∀ X u0, MS 6 X u0 am bm cm dm em fm → Calls Tryz.prog 63 #[u0] X (Makes X (fun v w => RN 25 w v R50))) := fun X u0 h0 => by subst hR50; exact au_mdet (nm := 6) h0 (by decide)
  obtain ⟨C3, hC3⟩ : ∃ Z, cmpR R49 R50 = Z := ⟨_, rfl⟩
  have HC10_20 : Hid (∀ X u0 u1, RN 181 X u0 R49 → RN 25 X u1 R50 → Calls Tryz.prog 44 #[u0, u1] X (Makes X (fun v _ => v = .int .i64 C3))) := fun X u0 u1 h0 h1 => by subst hC3; exact mk_rcmp (i := 181) (j := 25) (h0.rs (by decide)) (h1.rs (by decide)) (by decide)
  obtain ⟨R51, hR51⟩ : ∃ Z, mkRat 3 2 = Z := ⟨_, rfl⟩
  have HC10_26 : Hid (∀ X, Calls Tryz.prog 45 #[.int .i64 3, .int .i64 2] X (Makes X (fun v w => RN 1 w v R51))) := fun X => by subst hR51; exact au_rof (p := 3) (q := 2) (by decide) (by decide) (by decide) (by decide) X
  obtain ⟨C4, hC4⟩ : ∃ Z, cmpR R41 R51 = Z := ⟨_, rfl⟩
  have HC10_27 : Hid (∀ X u0 u1, RN 24 X u0 R41 → RN 1 X u1 R51 → Calls Tryz.prog 44 #[u0, u1] X (Makes X (fun v _ => v = .int .i64 C4))) := fun X u0 u1 h0 h1 => by subst hC4; exact mk_rcmp (i := 24) (j := 1) (h0.rs (by decide)) (h1.rs (by decide)) (by decide)
  obtain ⟨R52, hR52⟩ : ∃ Z, mkRat (-1) 2 = Z := ⟨_, rfl⟩
  have HC10_33 : Hid (∀ X, Calls Tryz.prog 45 #[.int .i64 (-1), .int .i64 2] X (Makes X (fun v w => RN 1 w v R52))) := fun X => by subst hR52; exact au_rof (p := (-1)) (q := 2) (by decide) (by decide) (by decide) (by decide) X
  obtain ⟨C5, hC5⟩ : ∃ Z, cmpR R42 R52 = Z := ⟨_, rfl⟩
  have HC10_34 : Hid (∀ X u0 u1, RN 24 X u0 R42 → RN 1 X u1 R52 → Calls Tryz.prog 44 #[u0, u1] X (Makes X (fun v _ => v = .int .i64 C5))) := fun X u0 u1 h0 h1 => by subst hC5; exact mk_rcmp (i := 24) (j := 1) (h0.rs (by decide)) (h1.rs (by decide)) (by decide)
  have HC10_38 : Hid (∀ X, Calls Tryz.prog 52 #[] X (Makes X (fun v _ => v = .bool true))) := fun X => wakes09_any X
  have HL10_6 : Hid (C1 = true) := by unfold Hid; subst hC1 hR46 hR45 hR44 hR43 hR12 hR11 hR10 hR9 hR8 hR7 hR6 hR5 hR4 hR3 hR2 hR1; try simp only [k1, k2, k3, k4, k5, k6, k7, k8, k9, k10, k11]; exact decide_eq_true ⟨by grind, by grind⟩
  have HL10_12 : Hid (C2 = true) := by unfold Hid; subst hC2 hR48 hR47 hR32 hR31 hR30 hR29 hR28 hR27 hR26 hR25 hR24 hR23 hR22 hR21 hR20 hR19 hR18 hR17 hR16 hR15 hR14 hR13 hR4 hR3 hR2 hR1; try simp only [k1, k2, k3, k4, k5, k6, k7, k8, k9, k10, k11]; exact decide_eq_true ⟨by grind, by grind⟩
  have HL10_21 : Hid (C3 = 0) := by unfold Hid; subst hC3 hR50 hR49 hR24 hR23 hR22 hR21 hR20 hR19 hR18 hR17 hR16 hR15 hR14 hR13 hR4 hR3 hR2 hR1; try simp only [k1, k2, k3, k4, k5, k6, k7, k8, k9, k10, k11]; exact cmpR_eq.2 (by grind)
  have HL10_28 : Hid (C4 = 0) := by unfold Hid; subst hC4 hR51 hR41 hR39 hR37 hR35 hR33; try simp only [k1, k2, k3, k4, k5, k6, k7, k8, k9, k10, k11]; exact cmpR_eq.2 (by grind)
  have HL10_35 : Hid (C5 = 0) := by unfold Hid; subst hC5 hR52 hR42 hR40 hR38 hR36 hR34; try simp only [k1, k2, k3, k4, k5, k6, k7, k8, k9, k10, k11]; exact cmpR_eq.2 (by grind)
  clear hR1 hR2 hR3 hR4 hR5 hR6 hR7 hR8 hR9 hR10 hR11 hR12 hR13 hR14 hR15 hR16 hR17 hR18 hR19 hR20 hR21 hR22 hR23 hR24 hR25 hR26 hR27 hR28 hR29 hR30 hR31 hR32 hR33 hR34 hR35 hR36 hR37 hR38 hR39 hR40 hR41 hR42 hR43 hR44 hR45 hR46 hC1 hR47 hR48 hC2 hR49 hR50 hC3 hR51 hC4 hR52 hC5
  go_enter Tryz.func10, Tryz.ntmps10
  go_upto_region 1 with fail
  obtain ⟨hXp0, hXp1, hXp2, hbw⟩ := boxes3 w (.cells #[.bool sm1, .slice pm1 km1 cm1, .slice qm1 jm1 dm1, .bool sm2, .slice pm2 km2 cm2, .slice qm2 jm2 dm2, .bool sm3, .slice pm3 km3 cm3, .slice qm3 jm3 dm3, .bool sm4, .slice pm4 km4 cm4, .slice qm4 jm4 dm4, .bool sm5, .slice pm5 km5 cm5, .slice qm5 jm5 dm5, .bool sm6, .slice pm6 km6 cm6, .slice qm6 jm6 dm6] 72) (.cells #[.bool sp1, .slice pp1 kp1 cp1, .slice qp1 jp1 dp1, .bool sp2, .slice pp2 kp2 cp2, .slice qp2 jp2 dp2] 28) (.cells #[.bool sq1, .slice pq1 kq1 cq1, .slice qq1 jq1 dq1, .bool sq2, .slice pq2 kq2 cq2, .slice qq2 jq2 dq2] 28)
  obtain ⟨W, hW⟩ : ∃ W, ((w.alloc (.cells #[.bool sm1, .slice pm1 km1 cm1, .slice qm1 jm1 dm1, .bool sm2, .slice pm2 km2 cm2, .slice qm2 jm2 dm2, .bool sm3, .slice pm3 km3 cm3, .slice qm3 jm3 dm3, .bool sm4, .slice pm4 km4 cm4, .slice qm4 jm4 dm4, .bool sm5, .slice pm5 km5 cm5, .slice qm5 jm5 dm5, .bool sm6, .slice pm6 km6 cm6, .slice qm6 jm6 dm6] 72)).alloc (.cells #[.bool sp1, .slice pp1 kp1 cp1, .slice qp1 jp1 dp1, .bool sp2, .slice pp2 kp2 cp2, .slice qp2 jp2 dp2] 28)).alloc (.cells #[.bool sq1, .slice pq1 kq1 cq1, .slice qq1 jq1 dq1, .bool sq2, .slice pq2 kq2 cq2, .slice qq2 jq2 dq2] 28) = W := ⟨_, rfl⟩
  rw [hW] at hXp0 hXp1 hXp2 hbw ⊢
  obtain ⟨Xp0, eXp0⟩ : ∃ X, w.heap.size = X := ⟨_, rfl⟩
  obtain ⟨Xp1, eXp1⟩ : ∃ X, Xp0 + 1 = X := ⟨_, rfl⟩
  obtain ⟨Xp2, eXp2⟩ : ∃ X, Xp1 + 1 = X := ⟨_, rfl⟩
  rw [eXp0, eXp1, eXp2]
  rw [eXp0] at hXp0 hXp1 hXp2
  rw [eXp1] at hXp1 hXp2
  rw [eXp2] at hXp2
  have HXp0 := Lib.hid hXp0
  have HXp1 := Lib.hid hXp1
  have HXp2 := Lib.hid hXp2
  have HBW := Lib.hid hbw
  have HGEXp0 : Hid (w.heap.size ≤ Xp0) := by unfold Hid; omega
  have HGEXp1 : Hid (w.heap.size ≤ Xp1) := by unfold Hid; omega
  have HGEXp2 : Hid (w.heap.size ≤ Xp2) := by unfold Hid; omega
  have HLT : Hid (Xp0 < Xp1 ∧ Xp1 < Xp2) := by unfold Hid; omega
  clear hW hbw hXp0 hXp1 hXp2 eXp0 eXp1 eXp2
  refine line_region 10 [[], [0], [1], [2], [3], [3], [3, 4, 5], [3, 6], [3, 7], [3, 8]] [.is (.agg #[.bool sm1, .slice pm1 km1 cm1, .slice qm1 jm1 dm1, .bool sm2, .slice pm2 km2 cm2, .slice qm2 jm2 dm2, .bool sm3, .slice pm3 km3 cm3, .slice qm3 jm3 dm3, .bool sm4, .slice pm4 km4 cm4, .slice qm4 jm4 dm4, .bool sm5, .slice pm5 km5 cm5, .slice qm5 jm5 dm5, .bool sm6, .slice pm6 km6 cm6, .slice qm6 jm6 dm6]), .is (.bool true), .is (.bool false), .is (.bool false), .is (.agg #[.bool sp1, .slice pp1 kp1 cp1, .slice qp1 jp1 dp1, .bool sp2, .slice pp2 kp2 cp2, .slice qp2 jp2 dp2]), .is (.agg #[.bool sq1, .slice pq1 kq1 cq1, .slice qq1 jq1 dq1, .bool sq2, .slice pq2 kq2 cq2, .slice qq2 jq2 dq2]), .has (fun v w => RpSl [⟨sp1, pp1, kp1, cp1, qp1, jp1, dp1, sp2, pp2, kp2, cp2, qp2, jp2, dp2⟩, ⟨sq1, pq1, kq1, cq1, qq1, jq1, dq1, sq2, pq2, kq2, cq2, qq2, jq2, dq2⟩] v w), .is (.bool true), .is (.bool false), .is (.bool false)] rfl rfl (by decide) (by simp only [Steady]; exact ⟨fun _ _ _ h hb => h.bel hb, trivial⟩) ?_
  simp only [List.take_succ_cons, List.take_zero, List.drop_succ_cons, List.drop_zero]
  refine fV (by rfl) (fun w1 hw1 _ => load_at rfl rfl (hw1.heap HXp0.out) rfl Tryz.underlying72 rfl (by kernel_rfl)) ?_
  simp only [Act.put, sA, sB, sC]
  refine fC (by rfl) (by intro w1 hw1 hk1; exact HC1_1.out _) (by intro; go_simp) ?_
  simp only [Act.put, sA, sB, sC]
  refine fV (by rfl) (by intro w1 hw1 hk1; go_simp) ?_
  simp only [Act.put, sA, sB, sC]
  refine fV (by rfl) (by intro w1 hw1 hk1; go_simp) ?_
  simp only [Act.put, sA, sB, sC]
  refine fV (by rfl) (fun w1 hw1 _ => load_at rfl rfl (hw1.heap HXp1.out) rfl Tryz.underlying28 rfl (by kernel_rfl)) ?_
  simp only [Act.put, sA, sB, sC]
  refine fV (by rfl) (fun w1 hw1 _ => load_at rfl rfl (hw1.heap HXp2.out) rfl Tryz.underlying28 rfl (by kernel_rfl)) ?_
  simp only [Act.put, sA, sB, sC]
  refine flow_has (by intro w1 hw1 hk1; refine want (by rfl) (gives_new (c := .slice (some ⟨w1.heap.size, 0, none⟩) 2 2) (w' := w1.alloc (.cells #[.bool sp1, .slice pp1 kp1 cp1, .slice qp1 jp1 dp1, .bool sp2, .slice pp2 kp2 cp2, .slice qp2 jp2 dp2, .bool sq1, .slice pq1 kq1 cq1, .slice qq1 jq1 dq1, .bool sq2, .slice pq2 kq2 cq2, .slice qq2 jq2 dq2] 28)) (by go_simp) ((Bel.refl w1).alloc _) (RpSl.new [⟨sp1, pp1, kp1, cp1, qp1, jp1, dp1, sp2, pp2, kp2, cp2, qp2, jp2, dp2⟩, ⟨sq1, pq1, kq1, cq1, qq1, jq1, dq1, sq2, pq2, kq2, cq2, qq2, jq2, dq2⟩] w1))) (fun v6 => ?_)
  simp only [Act.put, sA, sB, sC]
  refine fC (by rfl) (by intro w1 hw1 hk1; obtain ⟨g6, -⟩ := hk1; exact HC1_7.out _ _ g6) (by intro; go_simp) ?_
  simp only [Act.put, sA, sB, sC]
  refine fV (by rfl) (by intro w1 hw1 hk1; go_simp) ?_
  simp only [Act.put, sA, sB, sC]
  refine fV (by rfl) (by intro w1 hw1 hk1; go_simp) ?_
  simp only [Act.put, sA, sB, sC]
  intro W1 hW1 hk1
  obtain ⟨g6, -⟩ := hk1
  have hb2 := hW1
  replace HBW := Lib.hid (HBW.out.trans hb2)
  have HBW_ := Lib.hid hb2
  clear hW1 g6 hb2
  go_upto_region 3 with fail
  refine region_flowN 4 [] [3] [[], [], [0, 1], []] [.is (.agg #[.bool sm1, .slice pm1 km1 cm1, .slice qm1 jm1 dm1, .bool sm2, .slice pm2 km2 cm2, .slice qm2 jm2 dm2, .bool sm3, .slice pm3 km3 cm3, .slice qm3 jm3 dm3, .bool sm4, .slice pm4 km4 cm4, .slice qm4 jm4 dm4, .bool sm5, .slice pm5 km5 cm5, .slice qm5 jm5 dm5, .bool sm6, .slice pm6 km6 cm6, .slice qm6 jm6 dm6]), .has (fun v w => PN 1 w v R1 R2), .has (fun v w => PN 22 w v R3 R4), .has (fun v y => NewBox W1 28 #[.bool false, .slice none 0 0, .slice none 0 0, .bool false, .slice none 0 0, .slice none 0 0] v y)] (by kernel_rfl) (by kernel_rfl) rfl (fun j hj => by cases hj) (by intro j hj; simp only [List.mem_cons, List.not_mem_nil, or_false] at hj; rcases hj with rfl <;> exact ⟨_, _, rfl, (fun e w => by go_simp; exact ⟨_, rfl, Nat.le_refl _⟩), rfl, NewBox.lies⟩) (by simp only [Steady]; exact ⟨fun _ _ _ h hb => h.bel hb, fun _ _ _ h hb => h.bel hb, fun _ _ _ h hb => h.bel hb, trivial⟩) ?_
  simp only [List.take_succ_cons, List.take_zero, List.drop_succ_cons, List.drop_zero]
  refine gV (by rfl) (fun w1 hw1 _ => load_at rfl rfl (hw1.heap (HBW_.out.heap HXp0.out)) rfl Tryz.underlying72 rfl (by kernel_rfl)) ?_
  simp only [Act.put, sA, sB, sC]
  refine gH (by rfl) (by intro w1 hw1 hk1; exact HC3_1.out _) (by intro; go_simp) (fun v1 => ?_)
  simp only [Act.put, sA, sB, sC]
  refine gH (by rfl) (by intro w1 hw1 hk1; obtain ⟨g1, -⟩ := hk1; exact HC3_2.out _ _ _ (HPm.out.bel (HBW.out.trans hw1)) g1) (by intro; go_simp) (fun v2 => ?_)
  simp only [Act.put, sA, sB, sC]
  refine flowF_has (by intro w1 hw1 hk1; refine want (by rfl) (gives_new (c := .pointer (some ⟨w1.heap.size, 0, none⟩)) (w' := w1.alloc (.cells #[.bool false, .slice none 0 0, .slice none 0 0, .bool false, .slice none 0 0, .slice none 0 0] 28)) (by go_simp) ((Bel.refl w1).alloc _) ?_); exact NewBox.new hw1) (fun v3 => ?_)
  simp only [Act.put, sA, sB, sC]
  intro W2 hW2 hk1 hap
  obtain ⟨g3, g2, g1, -⟩ := hk1
  have hnn3 := g3
  clear g3
  obtain ⟨X3_3, rfl, hgeX3_3, hxX3_3⟩ := hnn3
  obtain ⟨sr2_3x1, pr2_3x1, kr2_3x1, cr2_3x1, qr2_3x1, jr2_3x1, dr2_3x1, sr2_3x2, pr2_3x2, kr2_3x2, cr2_3x2, qr2_3x2, jr2_3x2, dr2_3x2, rfl, g2_1, g2_2⟩ := g2.parts
  have ht0 := stoW (w := W1) (t := 28) [.bool sr2_3x1, .slice pr2_3x1 kr2_3x1 cr2_3x1, .slice qr2_3x1 jr2_3x1 dr2_3x1, .bool sr2_3x2, .slice pr2_3x2 kr2_3x2 cr2_3x2, .slice qr2_3x2 jr2_3x2 dr2_3x2] (hxX3_3) (hW2) rfl rfl hgeX3_3
  refine lt_store rfl rfl rfl rfl (hxX3_3) rfl (by kernel_rfl) rfl rfl ?_
  generalize hW3 : World.setCells _ _ _ _ = W3
  go_upto_region 4 with fail
  have hb2 := ht0.bel
  rw [hW3] at hb2
  have Hg2_3 := g2.lim (ht0.lim)
  rw [hW3] at Hg2_3
  replace Hg2_3 := Lib.hid Hg2_3
  have Hg2_3_1 := g2_1.lim (ht0.lim)
  rw [hW3] at Hg2_3_1
  replace Hg2_3_1 := Lib.hid Hg2_3_1
  have Hg2_3_2 := g2_2.lim (ht0.lim)
  rw [hW3] at Hg2_3_2
  replace Hg2_3_2 := Lib.hid Hg2_3_2
  have HX3_3 := ht0.heap
  rw [hW3] at HX3_3
  replace HX3_3 := Lib.hid HX3_3
  have hgwX3_3 : w.heap.size ≤ X3_3 := Nat.le_trans HBW.out.size hgeX3_3
  replace HBW := Lib.hid (HBW.out.trans hb2)
  replace HBW_ := Lib.hid (HBW_.out.trans hb2)
  have HBW1_ := Lib.hid hb2
  clear hW2 g2 hxX3_3 g1 g2_1 g2_2 hgeX3_3 hap hb2 hW3 ht0
  refine region_flowN 10 [] [9] [[], [], [0, 1], [], [], [3, 4], [2, 5], [], [6, 7], []] [.is (.agg #[.bool sm1, .slice pm1 km1 cm1, .slice qm1 jm1 dm1, .bool sm2, .slice pm2 km2 cm2, .slice qm2 jm2 dm2, .bool sm3, .slice pm3 km3 cm3, .slice qm3 jm3 dm3, .bool sm4, .slice pm4 km4 cm4, .slice qm4 jm4 dm4, .bool sm5, .slice pm5 km5 cm5, .slice qm5 jm5 dm5, .bool sm6, .slice pm6 km6 cm6, .slice qm6 jm6 dm6]), .is (.agg #[.bool sp1, .slice pp1 kp1 cp1, .slice qp1 jp1 dp1, .bool sp2, .slice pp2 kp2 cp2, .slice qp2 jp2 dp2]), .has (fun v w => PN 32 w v R5 R6), .is (.agg #[.bool sm1, .slice pm1 km1 cm1, .slice qm1 jm1 dm1, .bool sm2, .slice pm2 km2 cm2, .slice qm2 jm2 dm2, .bool sm3, .slice pm3 km3 cm3, .slice qm3 jm3 dm3, .bool sm4, .slice pm4 km4 cm4, .slice qm4 jm4 dm4, .bool sm5, .slice pm5 km5 cm5, .slice qm5 jm5 dm5, .bool sm6, .slice pm6 km6 cm6, .slice qm6 jm6 dm6]), .is (.agg #[.bool sq1, .slice pq1 kq1 cq1, .slice qq1 jq1 dq1, .bool sq2, .slice pq2 kq2 cq2, .slice qq2 jq2 dq2]), .has (fun v w => PN 32 w v R7 R8), .has (fun v w => PN 65 w v R9 R10), .is (.agg #[.bool sr2_3x1, .slice pr2_3x1 kr2_3x1 cr2_3x1, .slice qr2_3x1 jr2_3x1 dr2_3x1, .bool sr2_3x2, .slice pr2_3x2 kr2_3x2 cr2_3x2, .slice qr2_3x2 jr2_3x2 dr2_3x2]), .has (fun v w => PN 88 w v R11 R12), .has (fun v y => NewBox W3 28 #[.bool false, .slice none 0 0, .slice none 0 0, .bool false, .slice none 0 0, .slice none 0 0] v y)] (by kernel_rfl) (by kernel_rfl) rfl (fun j hj => by cases hj) (by intro j hj; simp only [List.mem_cons, List.not_mem_nil, or_false] at hj; rcases hj with rfl <;> exact ⟨_, _, rfl, (fun e w => by go_simp; exact ⟨_, rfl, Nat.le_refl _⟩), rfl, NewBox.lies⟩) (by simp only [Steady]; exact ⟨fun _ _ _ h hb => h.bel hb, fun _ _ _ h hb => h.bel hb, fun _ _ _ h hb => h.bel hb, fun _ _ _ h hb => h.bel hb, fun _ _ _ h hb => h.bel hb, trivial⟩) ?_
  simp only [List.take_succ_cons, List.take_zero, List.drop_succ_cons, List.drop_zero]
  refine gV (by rfl) (fun w1 hw1 _ => load_at rfl rfl (hw1.heap (HBW_.out.heap HXp0.out)) rfl Tryz.underlying72 rfl (by kernel_rfl)) ?_
  simp only [Act.put, sA, sB, sC]
  refine gV (by rfl) (fun w1 hw1 _ => load_at rfl rfl (hw1.heap (HBW_.out.heap HXp1.out)) rfl Tryz.underlying28 rfl (by kernel_rfl)) ?_
  simp only [Act.put, sA, sB, sC]
  refine gH (by rfl) (by intro w1 hw1 hk1; exact HC4_2.out _ _ _ (HPm.out.bel (HBW.out.trans hw1)) (HPp.out.bel (HBW.out.trans hw1))) (by intro; go_simp) (fun v2 => ?_)
  simp only [Act.put, sA, sB, sC]
  refine gV (by rfl) (fun w1 hw1 _ => load_at rfl rfl (hw1.heap (HBW_.out.heap HXp0.out)) rfl Tryz.underlying72 rfl (by kernel_rfl)) ?_
  simp only [Act.put, sA, sB, sC]
  refine gV (by rfl) (fun w1 hw1 _ => load_at rfl rfl (hw1.heap (HBW_.out.heap HXp2.out)) rfl Tryz.underlying28 rfl (by kernel_rfl)) ?_
  simp only [Act.put, sA, sB, sC]
  refine gH (by rfl) (by intro w1 hw1 hk1; exact HC4_5.out _ _ _ (HPm.out.bel (HBW.out.trans hw1)) (HPq.out.bel (HBW.out.trans hw1))) (by intro; go_simp) (fun v5 => ?_)
  simp only [Act.put, sA, sB, sC]
  refine gH (by rfl) (by intro w1 hw1 hk1; obtain ⟨g5, g2, -⟩ := hk1; exact HC4_6.out _ _ _ g2 g5) (by intro; go_simp) (fun v6 => ?_)
  simp only [Act.put, sA, sB, sC]
  refine gV (by rfl) (fun w1 hw1 _ => load_at rfl rfl (hw1.heap HX3_3.out) rfl Tryz.underlying28 rfl (by kernel_rfl)) ?_
  simp only [Act.put, sA, sB, sC]
  refine gH (by rfl) (by intro w1 hw1 hk1; obtain ⟨g6, -, -, -⟩ := hk1; exact HC4_8.out _ _ _ g6 (Hg2_3.out.bel hw1)) (by intro; go_simp) (fun v8 => ?_)
  simp only [Act.put, sA, sB, sC]
  refine flowF_has (by intro w1 hw1 hk1; refine want (by rfl) (gives_new (c := .pointer (some ⟨w1.heap.size, 0, none⟩)) (w' := w1.alloc (.cells #[.bool false, .slice none 0 0, .slice none 0 0, .bool false, .slice none 0 0, .slice none 0 0] 28)) (by go_simp) ((Bel.refl w1).alloc _) ?_); exact NewBox.new hw1) (fun v9 => ?_)
  simp only [Act.put, sA, sB, sC]
  intro W4 hW4 hk1 hap
  obtain ⟨g9, g8, g6, g5, g2, -⟩ := hk1
  have hnn9 := g9
  clear g9
  obtain ⟨X4_9, rfl, hgeX4_9, hxX4_9⟩ := hnn9
  obtain ⟨sr8_4x1, pr8_4x1, kr8_4x1, cr8_4x1, qr8_4x1, jr8_4x1, dr8_4x1, sr8_4x2, pr8_4x2, kr8_4x2, cr8_4x2, qr8_4x2, jr8_4x2, dr8_4x2, rfl, g8_1, g8_2⟩ := g8.parts
  have ht0 := stoW (w := W3) (t := 28) [.bool sr8_4x1, .slice pr8_4x1 kr8_4x1 cr8_4x1, .slice qr8_4x1 jr8_4x1 dr8_4x1, .bool sr8_4x2, .slice pr8_4x2 kr8_4x2 cr8_4x2, .slice qr8_4x2 jr8_4x2 dr8_4x2] (hxX4_9) (hW4) rfl rfl hgeX4_9
  refine lt_store rfl rfl rfl rfl (hxX4_9) rfl (by kernel_rfl) rfl rfl ?_
  generalize hW5 : World.setCells _ _ _ _ = W5
  go_upto_region 5 with fail
  have hb2 := ht0.bel
  rw [hW5] at hb2
  have Hg8_4 := g8.lim (ht0.lim)
  rw [hW5] at Hg8_4
  replace Hg8_4 := Lib.hid Hg8_4
  have Hg8_4_1 := g8_1.lim (ht0.lim)
  rw [hW5] at Hg8_4_1
  replace Hg8_4_1 := Lib.hid Hg8_4_1
  have Hg8_4_2 := g8_2.lim (ht0.lim)
  rw [hW5] at Hg8_4_2
  replace Hg8_4_2 := Lib.hid Hg8_4_2
  have HX4_9 := ht0.heap
  rw [hW5] at HX4_9
  replace HX4_9 := Lib.hid HX4_9
  have hgwX4_9 : w.heap.size ≤ X4_9 := Nat.le_trans HBW.out.size hgeX4_9
  replace HBW := Lib.hid (HBW.out.trans hb2)
  replace HBW_ := Lib.hid (HBW_.out.trans hb2)
  replace HBW1_ := Lib.hid (HBW1_.out.trans hb2)
  have HBW3_ := Lib.hid hb2
  clear hW4 g8 hxX4_9 g2 g5 g6 g8_1 g8_2 hgeX4_9 hap hb2 hW5 ht0
  refine region_flowN 6 [] [5] [[], [], [0, 1], [], [2, 3], []] [.is (.agg #[.bool sm1, .slice pm1 km1 cm1, .slice qm1 jm1 dm1, .bool sm2, .slice pm2 km2 cm2, .slice qm2 jm2 dm2, .bool sm3, .slice pm3 km3 cm3, .slice qm3 jm3 dm3, .bool sm4, .slice pm4 km4 cm4, .slice qm4 jm4 dm4, .bool sm5, .slice pm5 km5 cm5, .slice qm5 jm5 dm5, .bool sm6, .slice pm6 km6 cm6, .slice qm6 jm6 dm6]), .has (fun v w => PN 1 w v R13 R14), .has (fun v w => PN 22 w v R15 R16), .is (.agg #[.bool sr2_3x1, .slice pr2_3x1 kr2_3x1 cr2_3x1, .slice qr2_3x1 jr2_3x1 dr2_3x1, .bool sr2_3x2, .slice pr2_3x2 kr2_3x2 cr2_3x2, .slice qr2_3x2 jr2_3x2 dr2_3x2]), .has (fun v w => PN 45 w v R17 R18), .has (fun v y => NewBox W5 28 #[.bool false, .slice none 0 0, .slice none 0 0, .bool false, .slice none 0 0, .slice none 0 0] v y)] (by kernel_rfl) (by kernel_rfl) rfl (fun j hj => by cases hj) (by intro j hj; simp only [List.mem_cons, List.not_mem_nil, or_false] at hj; rcases hj with rfl <;> exact ⟨_, _, rfl, (fun e w => by go_simp; exact ⟨_, rfl, Nat.le_refl _⟩), rfl, NewBox.lies⟩) (by simp only [Steady]; exact ⟨fun _ _ _ h hb => h.bel hb, fun _ _ _ h hb => h.bel hb, fun _ _ _ h hb => h.bel hb, fun _ _ _ h hb => h.bel hb, trivial⟩) ?_
  simp only [List.take_succ_cons, List.take_zero, List.drop_succ_cons, List.drop_zero]
  refine gV (by rfl) (fun w1 hw1 _ => load_at rfl rfl (hw1.heap (HBW_.out.heap HXp0.out)) rfl Tryz.underlying72 rfl (by kernel_rfl)) ?_
  simp only [Act.put, sA, sB, sC]
  refine gH (by rfl) (by intro w1 hw1 hk1; exact HC5_1.out _) (by intro; go_simp) (fun v1 => ?_)
  simp only [Act.put, sA, sB, sC]
  refine gH (by rfl) (by intro w1 hw1 hk1; obtain ⟨g1, -⟩ := hk1; exact HC5_2.out _ _ _ (HPm.out.bel (HBW.out.trans hw1)) g1) (by intro; go_simp) (fun v2 => ?_)
  simp only [Act.put, sA, sB, sC]
  refine gV (by rfl) (fun w1 hw1 _ => load_at rfl rfl (hw1.heap (HBW3_.out.heap HX3_3.out)) rfl Tryz.underlying28 rfl (by kernel_rfl)) ?_
  simp only [Act.put, sA, sB, sC]
  refine gH (by rfl) (by intro w1 hw1 hk1; obtain ⟨g2, -, -⟩ := hk1; exact HC5_4.out _ _ _ g2 (Hg2_3.out.bel (HBW3_.out.trans hw1))) (by intro; go_simp) (fun v4 => ?_)
  simp only [Act.put, sA, sB, sC]
  refine flowF_has (by intro w1 hw1 hk1; refine want (by rfl) (gives_new (c := .pointer (some ⟨w1.heap.size, 0, none⟩)) (w' := w1.alloc (.cells #[.bool false, .slice none 0 0, .slice none 0 0, .bool false, .slice none 0 0, .slice none 0 0] 28)) (by go_simp) ((Bel.refl w1).alloc _) ?_); exact NewBox.new hw1) (fun v5 => ?_)
  simp only [Act.put, sA, sB, sC]
  intro W6 hW6 hk1 hap
  obtain ⟨g5, g4, g2, g1, -⟩ := hk1
  have hnn5 := g5
  clear g5
  obtain ⟨X5_5, rfl, hgeX5_5, hxX5_5⟩ := hnn5
  obtain ⟨sr4_5x1, pr4_5x1, kr4_5x1, cr4_5x1, qr4_5x1, jr4_5x1, dr4_5x1, sr4_5x2, pr4_5x2, kr4_5x2, cr4_5x2, qr4_5x2, jr4_5x2, dr4_5x2, rfl, g4_1, g4_2⟩ := g4.parts
  have ht0 := stoW (w := W5) (t := 28) [.bool sr4_5x1, .slice pr4_5x1 kr4_5x1 cr4_5x1, .slice qr4_5x1 jr4_5x1 dr4_5x1, .bool sr4_5x2, .slice pr4_5x2 kr4_5x2 cr4_5x2, .slice qr4_5x2 jr4_5x2 dr4_5x2] (hxX5_5) (hW6) rfl rfl hgeX5_5
  refine lt_store rfl rfl rfl rfl (hxX5_5) rfl (by kernel_rfl) rfl rfl ?_
  generalize hW7 : World.setCells _ _ _ _ = W7
  go_upto_region 6 with fail
  have hb2 := ht0.bel
  rw [hW7] at hb2
  have Hg4_5 := g4.lim (ht0.lim)
  rw [hW7] at Hg4_5
  replace Hg4_5 := Lib.hid Hg4_5
  have Hg4_5_1 := g4_1.lim (ht0.lim)
  rw [hW7] at Hg4_5_1
  replace Hg4_5_1 := Lib.hid Hg4_5_1
  have Hg4_5_2 := g4_2.lim (ht0.lim)
  rw [hW7] at Hg4_5_2
  replace Hg4_5_2 := Lib.hid Hg4_5_2
  have HX5_5 := ht0.heap
  rw [hW7] at HX5_5
  replace HX5_5 := Lib.hid HX5_5
  have hgwX5_5 : w.heap.size ≤ X5_5 := Nat.le_trans HBW.out.size hgeX5_5
  replace HBW := Lib.hid (HBW.out.trans hb2)
  replace HBW_ := Lib.hid (HBW_.out.trans hb2)
  replace HBW1_ := Lib.hid (HBW1_.out.trans hb2)
  replace HBW3_ := Lib.hid (HBW3_.out.trans hb2)
  have HBW5_ := Lib.hid hb2
  clear hW6 g4 hxX5_5 g1 g2 g4_1 g4_2 hgeX5_5 hap hb2 hW7 ht0
  refine region_flowN 6 [] [5] [[], [], [0, 1], [], [2, 3], []] [.is (.agg #[.bool sm1, .slice pm1 km1 cm1, .slice qm1 jm1 dm1, .bool sm2, .slice pm2 km2 cm2, .slice qm2 jm2 dm2, .bool sm3, .slice pm3 km3 cm3, .slice qm3 jm3 dm3, .bool sm4, .slice pm4 km4 cm4, .slice qm4 jm4 dm4, .bool sm5, .slice pm5 km5 cm5, .slice qm5 jm5 dm5, .bool sm6, .slice pm6 km6 cm6, .slice qm6 jm6 dm6]), .has (fun v w => PN 1 w v R19 R20), .has (fun v w => PN 22 w v R21 R22), .is (.agg #[.bool sr2_3x1, .slice pr2_3x1 kr2_3x1 cr2_3x1, .slice qr2_3x1 jr2_3x1 dr2_3x1, .bool sr2_3x2, .slice pr2_3x2 kr2_3x2 cr2_3x2, .slice qr2_3x2 jr2_3x2 dr2_3x2]), .has (fun v w => PN 45 w v R23 R24), .has (fun v y => NewBox W7 28 #[.bool false, .slice none 0 0, .slice none 0 0, .bool false, .slice none 0 0, .slice none 0 0] v y)] (by kernel_rfl) (by kernel_rfl) rfl (fun j hj => by cases hj) (by intro j hj; simp only [List.mem_cons, List.not_mem_nil, or_false] at hj; rcases hj with rfl <;> exact ⟨_, _, rfl, (fun e w => by go_simp; exact ⟨_, rfl, Nat.le_refl _⟩), rfl, NewBox.lies⟩) (by simp only [Steady]; exact ⟨fun _ _ _ h hb => h.bel hb, fun _ _ _ h hb => h.bel hb, fun _ _ _ h hb => h.bel hb, fun _ _ _ h hb => h.bel hb, trivial⟩) ?_
  simp only [List.take_succ_cons, List.take_zero, List.drop_succ_cons, List.drop_zero]
  refine gV (by rfl) (fun w1 hw1 _ => load_at rfl rfl (hw1.heap (HBW_.out.heap HXp0.out)) rfl Tryz.underlying72 rfl (by kernel_rfl)) ?_
  simp only [Act.put, sA, sB, sC]
  refine gH (by rfl) (by intro w1 hw1 hk1; exact HC6_1.out _) (by intro; go_simp) (fun v1 => ?_)
  simp only [Act.put, sA, sB, sC]
  refine gH (by rfl) (by intro w1 hw1 hk1; obtain ⟨g1, -⟩ := hk1; exact HC6_2.out _ _ _ (HPm.out.bel (HBW.out.trans hw1)) g1) (by intro; go_simp) (fun v2 => ?_)
  simp only [Act.put, sA, sB, sC]
  refine gV (by rfl) (fun w1 hw1 _ => load_at rfl rfl (hw1.heap (HBW3_.out.heap HX3_3.out)) rfl Tryz.underlying28 rfl (by kernel_rfl)) ?_
  simp only [Act.put, sA, sB, sC]
  refine gH (by rfl) (by intro w1 hw1 hk1; obtain ⟨g2, -, -⟩ := hk1; exact HC6_4.out _ _ _ g2 (Hg2_3.out.bel (HBW3_.out.trans hw1))) (by intro; go_simp) (fun v4 => ?_)
  simp only [Act.put, sA, sB, sC]
  refine flowF_has (by intro w1 hw1 hk1; refine want (by rfl) (gives_new (c := .pointer (some ⟨w1.heap.size, 0, none⟩)) (w' := w1.alloc (.cells #[.bool false, .slice none 0 0, .slice none 0 0, .bool false, .slice none 0 0, .slice none 0 0] 28)) (by go_simp) ((Bel.refl w1).alloc _) ?_); exact NewBox.new hw1) (fun v5 => ?_)
  simp only [Act.put, sA, sB, sC]
  intro W8 hW8 hk1 hap
  obtain ⟨g5, g4, g2, g1, -⟩ := hk1
  have hnn5 := g5
  clear g5
  obtain ⟨X6_5, rfl, hgeX6_5, hxX6_5⟩ := hnn5
  obtain ⟨sr4_6x1, pr4_6x1, kr4_6x1, cr4_6x1, qr4_6x1, jr4_6x1, dr4_6x1, sr4_6x2, pr4_6x2, kr4_6x2, cr4_6x2, qr4_6x2, jr4_6x2, dr4_6x2, rfl, g4_1, g4_2⟩ := g4.parts
  have ht0 := stoW (w := W7) (t := 28) [.bool sr4_6x1, .slice pr4_6x1 kr4_6x1 cr4_6x1, .slice qr4_6x1 jr4_6x1 dr4_6x1, .bool sr4_6x2, .slice pr4_6x2 kr4_6x2 cr4_6x2, .slice qr4_6x2 jr4_6x2 dr4_6x2] (hxX6_5) (hW8) rfl rfl hgeX6_5
  refine lt_store rfl rfl rfl rfl (hxX6_5) rfl (by kernel_rfl) rfl rfl ?_
  generalize hW9 : World.setCells _ _ _ _ = W9
  go_upto_region 7 with fail
  have hb2 := ht0.bel
  rw [hW9] at hb2
  have Hg4_6 := g4.lim (ht0.lim)
  rw [hW9] at Hg4_6
  replace Hg4_6 := Lib.hid Hg4_6
  have Hg4_6_1 := g4_1.lim (ht0.lim)
  rw [hW9] at Hg4_6_1
  replace Hg4_6_1 := Lib.hid Hg4_6_1
  have Hg4_6_2 := g4_2.lim (ht0.lim)
  rw [hW9] at Hg4_6_2
  replace Hg4_6_2 := Lib.hid Hg4_6_2
  have HX6_5 := ht0.heap
  rw [hW9] at HX6_5
  replace HX6_5 := Lib.hid HX6_5
  have hgwX6_5 : w.heap.size ≤ X6_5 := Nat.le_trans HBW.out.size hgeX6_5
  replace HBW := Lib.hid (HBW.out.trans hb2)
  replace HBW_ := Lib.hid (HBW_.out.trans hb2)
  replace HBW1_ := Lib.hid (HBW1_.out.trans hb2)
  replace HBW3_ := Lib.hid (HBW3_.out.trans hb2)
  replace HBW5_ := Lib.hid (HBW5_.out.trans hb2)
  have HBW7_ := Lib.hid hb2
  clear hW8 g4 hxX6_5 g1 g2 g4_1 g4_2 hgeX6_5 hap hb2 hW9 ht0
  refine region_flowN 12 [] [11] [[], [], [], [2], [1, 3], [], [], [6], [5, 7], [4, 8], [0, 9], []] [.is (.agg #[.bool sr2_3x1, .slice pr2_3x1 kr2_3x1 cr2_3x1, .slice qr2_3x1 jr2_3x1 dr2_3x1, .bool sr2_3x2, .slice pr2_3x2 kr2_3x2 cr2_3x2, .slice qr2_3x2 jr2_3x2 dr2_3x2]), .is (.agg #[.bool sr4_5x1, .slice pr4_5x1 kr4_5x1 cr4_5x1, .slice qr4_5x1 jr4_5x1 dr4_5x1, .bool sr4_5x2, .slice pr4_5x2 kr4_5x2 cr4_5x2, .slice qr4_5x2 jr4_5x2 dr4_5x2]), .is (.pointer (some ⟨Xp1, 0, none⟩)), .is (.agg #[.bool sp1, .slice pp1 kp1 cp1, .slice qp1 jp1 dp1]), .has (fun v w => PN 51 w v R25 R26), .is (.agg #[.bool sr4_6x1, .slice pr4_6x1 kr4_6x1 cr4_6x1, .slice qr4_6x1 jr4_6x1 dr4_6x1, .bool sr4_6x2, .slice pr4_6x2 kr4_6x2 cr4_6x2, .slice qr4_6x2 jr4_6x2 dr4_6x2]), .is (.pointer (some ⟨Xp1, 3, none⟩)), .is (.agg #[.bool sp2, .slice pp2 kp2 cp2, .slice qp2 jp2 dp2]), .has (fun v w => PN 51 w v R27 R28), .has (fun v w => PN 103 w v R29 R30), .has (fun v w => PN 126 w v R31 R32), .has (fun v y => NewBox W9 28 #[.bool false, .slice none 0 0, .slice none 0 0, .bool false, .slice none 0 0, .slice none 0 0] v y)] (by kernel_rfl) (by kernel_rfl) rfl (fun j hj => by cases hj) (by intro j hj; simp only [List.mem_cons, List.not_mem_nil, or_false] at hj; rcases hj with rfl <;> exact ⟨_, _, rfl, (fun e w => by go_simp; exact ⟨_, rfl, Nat.le_refl _⟩), rfl, NewBox.lies⟩) (by simp only [Steady]; exact ⟨fun _ _ _ h hb => h.bel hb, fun _ _ _ h hb => h.bel hb, fun _ _ _ h hb => h.bel hb, fun _ _ _ h hb => h.bel hb, fun _ _ _ h hb => h.bel hb, trivial⟩) ?_
  simp only [List.take_succ_cons, List.take_zero, List.drop_succ_cons, List.drop_zero]
  refine gV (by rfl) (fun w1 hw1 _ => load_at rfl rfl (hw1.heap (HBW3_.out.heap HX3_3.out)) rfl Tryz.underlying28 rfl (by kernel_rfl)) ?_
  simp only [Act.put, sA, sB, sC]
  refine gV (by rfl) (fun w1 hw1 _ => load_at rfl rfl (hw1.heap (HBW7_.out.heap HX5_5.out)) rfl Tryz.underlying28 rfl (by kernel_rfl)) ?_
  simp only [Act.put, sA, sB, sC]
  refine gV (by rfl) (by intro w1 hw1 hk1; go_simp) ?_
  simp only [Act.put, sA, sB, sC]
  refine gV (by rfl) (fun w1 hw1 _ => load_at rfl rfl (hw1.heap (HBW_.out.heap HXp1.out)) rfl Tryz.underlying26 rfl (by kernel_rfl)) ?_
  simp only [Act.put, sA, sB, sC]
  refine gH (by rfl) (by intro w1 hw1 hk1; exact HC7_4.out _ _ _ (Hg4_5.out.bel (HBW7_.out.trans hw1)) (HPp1.out.bel (HBW.out.trans hw1))) (by intro; go_simp) (fun v4 => ?_)
  simp only [Act.put, sA, sB, sC]
  refine gV (by rfl) (fun w1 hw1 _ => load_at rfl rfl (hw1.heap HX6_5.out) rfl Tryz.underlying28 rfl (by kernel_rfl)) ?_
  simp only [Act.put, sA, sB, sC]
  refine gV (by rfl) (by intro w1 hw1 hk1; go_simp) ?_
  simp only [Act.put, sA, sB, sC]
  refine gV (by rfl) (fun w1 hw1 _ => load_at rfl rfl (hw1.heap (HBW_.out.heap HXp1.out)) rfl Tryz.underlying26 rfl (by kernel_rfl)) ?_
  simp only [Act.put, sA, sB, sC]
  refine gH (by rfl) (by intro w1 hw1 hk1; exact HC7_8.out _ _ _ (Hg4_6.out.bel hw1) (HPp2.out.bel (HBW.out.trans hw1))) (by intro; go_simp) (fun v8 => ?_)
  simp only [Act.put, sA, sB, sC]
  refine gH (by rfl) (by intro w1 hw1 hk1; obtain ⟨g8, g4, -⟩ := hk1; exact HC7_9.out _ _ _ g4 g8) (by intro; go_simp) (fun v9 => ?_)
  simp only [Act.put, sA, sB, sC]
  refine gH (by rfl) (by intro w1 hw1 hk1; obtain ⟨g9, -, -, -⟩ := hk1; exact HC7_10.out _ _ _ (Hg2_3.out.bel (HBW3_.out.trans hw1)) g9) (by intro; go_simp) (fun v10 => ?_)
  simp only [Act.put, sA, sB, sC]
  refine flowF_has (by intro w1 hw1 hk1; refine want (by rfl) (gives_new (c := .pointer (some ⟨w1.heap.size, 0, none⟩)) (w' := w1.alloc (.cells #[.bool false, .slice none 0 0, .slice none 0 0, .bool false, .slice none 0 0, .slice none 0 0] 28)) (by go_simp) ((Bel.refl w1).alloc _) ?_); exact NewBox.new hw1) (fun v11 => ?_)
  simp only [Act.put, sA, sB, sC]
  intro W10 hW10 hk1 hap
  obtain ⟨g11, g10, g9, g8, g4, -⟩ := hk1
  have hnn11 := g11
  clear g11
  obtain ⟨X7_11, rfl, hgeX7_11, hxX7_11⟩ := hnn11
  obtain ⟨sr10_7x1, pr10_7x1, kr10_7x1, cr10_7x1, qr10_7x1, jr10_7x1, dr10_7x1, sr10_7x2, pr10_7x2, kr10_7x2, cr10_7x2, qr10_7x2, jr10_7x2, dr10_7x2, rfl, g10_1, g10_2⟩ := g10.parts
  have ht0 := stoW (w := W9) (t := 28) [.bool sr10_7x1, .slice pr10_7x1 kr10_7x1 cr10_7x1, .slice qr10_7x1 jr10_7x1 dr10_7x1, .bool sr10_7x2, .slice pr10_7x2 kr10_7x2 cr10_7x2, .slice qr10_7x2 jr10_7x2 dr10_7x2] (hxX7_11) (hW10) rfl rfl hgeX7_11
  refine lt_store rfl rfl rfl rfl (hxX7_11) rfl (by kernel_rfl) rfl rfl ?_
  generalize hW11 : World.setCells _ _ _ _ = W11
  go_upto_region 8 with fail
  have hb2 := ht0.bel
  rw [hW11] at hb2
  have Hg10_7 := g10.lim (ht0.lim)
  rw [hW11] at Hg10_7
  replace Hg10_7 := Lib.hid Hg10_7
  have Hg10_7_1 := g10_1.lim (ht0.lim)
  rw [hW11] at Hg10_7_1
  replace Hg10_7_1 := Lib.hid Hg10_7_1
  have Hg10_7_2 := g10_2.lim (ht0.lim)
  rw [hW11] at Hg10_7_2
  replace Hg10_7_2 := Lib.hid Hg10_7_2
  have HX7_11 := ht0.heap
  rw [hW11] at HX7_11
  replace HX7_11 := Lib.hid HX7_11
  have hgwX7_11 : w.heap.size ≤ X7_11 := Nat.le_trans HBW.out.size hgeX7_11
  replace HBW := Lib.hid (HBW.out.trans hb2)
  replace HBW_ := Lib.hid (HBW_.out.trans hb2)
  replace HBW1_ := Lib.hid (HBW1_.out.trans hb2)
  replace HBW3_ := Lib.hid (HBW3_.out.trans hb2)
  replace HBW5_ := Lib.hid (HBW5_.out.trans hb2)
  replace HBW7_ := Lib.hid (HBW7_.out.trans hb2)
  have HBW9_ := Lib.hid hb2
  clear hW10 g10 hxX7_11 g4 g8 g9 g10_1 g10_2 hgeX7_11 hap hb2 hW11 ht0
  refine region_flowN 5 [] [4] [[], [0], [], [1, 2], []] [.is (.agg #[.int .i64 65536, .int .i64 0, .int .i64 0, .int .i64 65536, .int .i64 96, .int .i64 (-32)]), .has (fun v w => MN 1 w v R33 R34 R35 R36 R37 R38), .is (.agg #[.bool sp1, .slice pp1 kp1 cp1, .slice qp1 jp1 dp1, .bool sp2, .slice pp2 kp2 cp2, .slice qp2 jp2 dp2]), .has (fun v w => PN 17 w v R39 R40), .has (fun v y => NewBox W11 28 #[.bool false, .slice none 0 0, .slice none 0 0, .bool false, .slice none 0 0, .slice none 0 0] v y)] (by kernel_rfl) (by kernel_rfl) rfl (fun j hj => by cases hj) (by intro j hj; simp only [List.mem_cons, List.not_mem_nil, or_false] at hj; rcases hj with rfl <;> exact ⟨_, _, rfl, (fun e w => by go_simp; exact ⟨_, rfl, Nat.le_refl _⟩), rfl, NewBox.lies⟩) (by simp only [Steady]; exact ⟨fun _ _ _ h hb => h.bel hb, fun _ _ _ h hb => h.bel hb, fun _ _ _ h hb => h.bel hb, trivial⟩) ?_
  simp only [List.take_succ_cons, List.take_zero, List.drop_succ_cons, List.drop_zero]
  refine gV (by rfl) (by intro w1 hw1 hk1; go_simp) ?_
  simp only [Act.put, sA, sB, sC]
  refine gH (by rfl) (by intro w1 hw1 hk1; exact HC8_1.out _) (by intro; go_simp) (fun v1 => ?_)
  simp only [Act.put, sA, sB, sC]
  refine gV (by rfl) (fun w1 hw1 _ => load_at rfl rfl (hw1.heap (HBW_.out.heap HXp1.out)) rfl Tryz.underlying28 rfl (by kernel_rfl)) ?_
  simp only [Act.put, sA, sB, sC]
  refine gH (by rfl) (by intro w1 hw1 hk1; obtain ⟨g1, -⟩ := hk1; exact HC8_3.out _ _ _ g1 (HPp.out.bel (HBW.out.trans hw1))) (by intro; go_simp) (fun v3 => ?_)
  simp only [Act.put, sA, sB, sC]
  refine flowF_has (by intro w1 hw1 hk1; refine want (by rfl) (gives_new (c := .pointer (some ⟨w1.heap.size, 0, none⟩)) (w' := w1.alloc (.cells #[.bool false, .slice none 0 0, .slice none 0 0, .bool false, .slice none 0 0, .slice none 0 0] 28)) (by go_simp) ((Bel.refl w1).alloc _) ?_); exact NewBox.new hw1) (fun v4 => ?_)
  simp only [Act.put, sA, sB, sC]
  intro W12 hW12 hk1 hap
  obtain ⟨g4, g3, g1, -⟩ := hk1
  have hnn4 := g4
  clear g4
  obtain ⟨X8_4, rfl, hgeX8_4, hxX8_4⟩ := hnn4
  obtain ⟨sr3_8x1, pr3_8x1, kr3_8x1, cr3_8x1, qr3_8x1, jr3_8x1, dr3_8x1, sr3_8x2, pr3_8x2, kr3_8x2, cr3_8x2, qr3_8x2, jr3_8x2, dr3_8x2, rfl, g3_1, g3_2⟩ := g3.parts
  have ht0 := stoW (w := W11) (t := 28) [.bool sr3_8x1, .slice pr3_8x1 kr3_8x1 cr3_8x1, .slice qr3_8x1 jr3_8x1 dr3_8x1, .bool sr3_8x2, .slice pr3_8x2 kr3_8x2 cr3_8x2, .slice qr3_8x2 jr3_8x2 dr3_8x2] (hxX8_4) (hW12) rfl rfl hgeX8_4
  refine lt_store rfl rfl rfl rfl (hxX8_4) rfl (by kernel_rfl) rfl rfl ?_
  generalize hW13 : World.setCells _ _ _ _ = W13
  go_upto_region 9 with fail
  have hb2 := ht0.bel
  rw [hW13] at hb2
  have Hg3_8 := g3.lim (ht0.lim)
  rw [hW13] at Hg3_8
  replace Hg3_8 := Lib.hid Hg3_8
  have Hg3_8_1 := g3_1.lim (ht0.lim)
  rw [hW13] at Hg3_8_1
  replace Hg3_8_1 := Lib.hid Hg3_8_1
  have Hg3_8_2 := g3_2.lim (ht0.lim)
  rw [hW13] at Hg3_8_2
  replace Hg3_8_2 := Lib.hid Hg3_8_2
  have HX8_4 := ht0.heap
  rw [hW13] at HX8_4
  replace HX8_4 := Lib.hid HX8_4
  have hgwX8_4 : w.heap.size ≤ X8_4 := Nat.le_trans HBW.out.size hgeX8_4
  replace HBW := Lib.hid (HBW.out.trans hb2)
  replace HBW_ := Lib.hid (HBW_.out.trans hb2)
  replace HBW1_ := Lib.hid (HBW1_.out.trans hb2)
  replace HBW3_ := Lib.hid (HBW3_.out.trans hb2)
  replace HBW5_ := Lib.hid (HBW5_.out.trans hb2)
  replace HBW7_ := Lib.hid (HBW7_.out.trans hb2)
  replace HBW9_ := Lib.hid (HBW9_.out.trans hb2)
  have HBW11_ := Lib.hid hb2
  clear hW12 g3 hxX8_4 g1 g3_1 g3_2 hgeX8_4 hap hb2 hW13 ht0
  refine line_region 4 [[], [], [0, 1], []] [.is (.agg #[.bool sr3_8x1, .slice pr3_8x1 kr3_8x1 cr3_8x1, .slice qr3_8x1 jr3_8x1 dr3_8x1, .bool sr3_8x2, .slice pr3_8x2 kr3_8x2 cr3_8x2, .slice qr3_8x2 jr3_8x2 dr3_8x2]), .is (.agg #[.bool sp1, .slice pp1 kp1 cp1, .slice qp1 jp1 dp1, .bool sp2, .slice pp2 kp2 cp2, .slice qp2 jp2 dp2]), .has (fun v w => PN 24 w v R41 R42), .has (fun v y => NewBox W13 28 #[.bool false, .slice none 0 0, .slice none 0 0, .bool false, .slice none 0 0, .slice none 0 0] v y)] rfl rfl (by decide) (by simp only [Steady]; exact ⟨fun _ _ _ h hb => h.bel hb, fun _ _ _ h hb => h.bel hb, trivial⟩) ?_
  simp only [List.take_succ_cons, List.take_zero, List.drop_succ_cons, List.drop_zero]
  refine fV (by rfl) (fun w1 hw1 _ => load_at rfl rfl (hw1.heap HX8_4.out) rfl Tryz.underlying28 rfl (by kernel_rfl)) ?_
  simp only [Act.put, sA, sB, sC]
  refine fV (by rfl) (fun w1 hw1 _ => load_at rfl rfl (hw1.heap (HBW_.out.heap HXp1.out)) rfl Tryz.underlying28 rfl (by kernel_rfl)) ?_
  simp only [Act.put, sA, sB, sC]
  refine fH (by rfl) (by intro w1 hw1 hk1; exact HC9_2.out _ _ _ (Hg3_8.out.bel hw1) (HPp.out.bel (HBW.out.trans hw1))) (by intro; go_simp) (fun v2 => ?_)
  simp only [Act.put, sA, sB, sC]
  refine flow_has (by intro w1 hw1 hk1; refine want (by rfl) (gives_new (c := .pointer (some ⟨w1.heap.size, 0, none⟩)) (w' := w1.alloc (.cells #[.bool false, .slice none 0 0, .slice none 0 0, .bool false, .slice none 0 0, .slice none 0 0] 28)) (by go_simp) ((Bel.refl w1).alloc _) ?_); exact NewBox.new hw1) (fun v3 => ?_)
  simp only [Act.put, sA, sB, sC]
  intro W14 hW14 hk1
  obtain ⟨g3, g2, -⟩ := hk1
  have hnn3 := g3
  clear g3
  obtain ⟨X9_3, rfl, hgeX9_3, hxX9_3⟩ := hnn3
  obtain ⟨sr2_9x1, pr2_9x1, kr2_9x1, cr2_9x1, qr2_9x1, jr2_9x1, dr2_9x1, sr2_9x2, pr2_9x2, kr2_9x2, cr2_9x2, qr2_9x2, jr2_9x2, dr2_9x2, rfl, g2_1, g2_2⟩ := g2.parts
  have ht0 := stoW (w := W13) (t := 28) [.bool sr2_9x1, .slice pr2_9x1 kr2_9x1 cr2_9x1, .slice qr2_9x1 jr2_9x1 dr2_9x1, .bool sr2_9x2, .slice pr2_9x2 kr2_9x2 cr2_9x2, .slice qr2_9x2 jr2_9x2 dr2_9x2] (hxX9_3) (hW14) rfl rfl hgeX9_3
  refine lt_store rfl rfl rfl rfl (hxX9_3) rfl (by kernel_rfl) rfl rfl ?_
  generalize hW15 : World.setCells _ _ _ _ = W15
  go_upto_region 10 with fail
  have hb2 := ht0.bel
  rw [hW15] at hb2
  have Hg2_9 := g2.lim (ht0.lim)
  rw [hW15] at Hg2_9
  replace Hg2_9 := Lib.hid Hg2_9
  have Hg2_9_1 := g2_1.lim (ht0.lim)
  rw [hW15] at Hg2_9_1
  replace Hg2_9_1 := Lib.hid Hg2_9_1
  have Hg2_9_2 := g2_2.lim (ht0.lim)
  rw [hW15] at Hg2_9_2
  replace Hg2_9_2 := Lib.hid Hg2_9_2
  have HX9_3 := ht0.heap
  rw [hW15] at HX9_3
  replace HX9_3 := Lib.hid HX9_3
  have hgwX9_3 : w.heap.size ≤ X9_3 := Nat.le_trans HBW.out.size hgeX9_3
  replace HBW := Lib.hid (HBW.out.trans hb2)
  replace HBW_ := Lib.hid (HBW_.out.trans hb2)
  replace HBW1_ := Lib.hid (HBW1_.out.trans hb2)
  replace HBW3_ := Lib.hid (HBW3_.out.trans hb2)
  replace HBW5_ := Lib.hid (HBW5_.out.trans hb2)
  replace HBW7_ := Lib.hid (HBW7_.out.trans hb2)
  replace HBW9_ := Lib.hid (HBW9_.out.trans hb2)
  replace HBW11_ := Lib.hid (HBW11_.out.trans hb2)
  have HBW13_ := Lib.hid hb2
  clear hW14 g2 hxX9_3 g2_1 g2_2 hgeX9_3 hb2 hW15 ht0
  refine region_flow 40 [[], [], [], [1, 2], [0, 3], [], [4, 5], [6], [7], [7], [7], [7, 9, 10], [7, 8, 11], [7, 12], [13], [14], [14], [14, 15, 16], [14], [14, 18], [14, 17, 19], [14, 20], [14, 21], [22], [23], [23, 24], [23], [23, 25, 26], [23, 27], [23, 28], [29], [30], [30, 31], [30], [30, 32, 33], [30, 34], [30, 35], [36], [37], [37, 38]] [.is (.agg #[.bool sm1, .slice pm1 km1 cm1, .slice qm1 jm1 dm1, .bool sm2, .slice pm2 km2 cm2, .slice qm2 jm2 dm2, .bool sm3, .slice pm3 km3 cm3, .slice qm3 jm3 dm3, .bool sm4, .slice pm4 km4 cm4, .slice qm4 jm4 dm4, .bool sm5, .slice pm5 km5 cm5, .slice qm5 jm5 dm5, .bool sm6, .slice pm6 km6 cm6, .slice qm6 jm6 dm6]), .is (.agg #[.bool sp1, .slice pp1 kp1 cp1, .slice qp1 jp1 dp1, .bool sp2, .slice pp2 kp2 cp2, .slice qp2 jp2 dp2]), .is (.agg #[.bool sq1, .slice pq1 kq1 cq1, .slice qq1 jq1 dq1, .bool sq2, .slice pq2 kq2 cq2, .slice qq2 jq2 dq2]), .has (fun v w => PN 13 w v R43 R44), .has (fun v w => PN 46 w v R45 R46), .is (.agg #[.bool sr8_4x1, .slice pr8_4x1 kr8_4x1 cr8_4x1, .slice qr8_4x1 jr8_4x1 dr8_4x1, .bool sr8_4x2, .slice pr8_4x2 kr8_4x2 cr8_4x2, .slice qr8_4x2 jr8_4x2 dr8_4x2]), .is (.bool true), .is (.bool true), .is (.agg #[.bool sr10_7x1, .slice pr10_7x1 kr10_7x1 cr10_7x1, .slice qr10_7x1 jr10_7x1 dr10_7x1, .bool sr10_7x2, .slice pr10_7x2 kr10_7x2 cr10_7x2, .slice qr10_7x2 jr10_7x2 dr10_7x2]), .is (.agg #[.bool sm1, .slice pm1 km1 cm1, .slice qm1 jm1 dm1, .bool sm2, .slice pm2 km2 cm2, .slice qm2 jm2 dm2, .bool sm3, .slice pm3 km3 cm3, .slice qm3 jm3 dm3, .bool sm4, .slice pm4 km4 cm4, .slice qm4 jm4 dm4, .bool sm5, .slice pm5 km5 cm5, .slice qm5 jm5 dm5, .bool sm6, .slice pm6 km6 cm6, .slice qm6 jm6 dm6]), .is (.agg #[.bool sp1, .slice pp1 kp1 cp1, .slice qp1 jp1 dp1, .bool sp2, .slice pp2 kp2 cp2, .slice qp2 jp2 dp2]), .has (fun v w => PN 32 w v R47 R48), .is (.bool true), .is (.bool true), .is (.bool true), .is (.agg #[.bool sr4_5x1, .slice pr4_5x1 kr4_5x1 cr4_5x1, .slice qr4_5x1 jr4_5x1 dr4_5x1, .bool sr4_5x2, .slice pr4_5x2 kr4_5x2 cr4_5x2, .slice qr4_5x2 jr4_5x2 dr4_5x2]), .is (.agg #[.bool sr4_6x1, .slice pr4_6x1 kr4_6x1 cr4_6x1, .slice qr4_6x1 jr4_6x1 dr4_6x1, .bool sr4_6x2, .slice pr4_6x2 kr4_6x2 cr4_6x2, .slice qr4_6x2 jr4_6x2 dr4_6x2]), .has (fun v w => RN 181 w v R49), .is (.agg #[.bool sm1, .slice pm1 km1 cm1, .slice qm1 jm1 dm1, .bool sm2, .slice pm2 km2 cm2, .slice qm2 jm2 dm2, .bool sm3, .slice pm3 km3 cm3, .slice qm3 jm3 dm3, .bool sm4, .slice pm4 km4 cm4, .slice qm4 jm4 dm4, .bool sm5, .slice pm5 km5 cm5, .slice qm5 jm5 dm5, .bool sm6, .slice pm6 km6 cm6, .slice qm6 jm6 dm6]), .has (fun v w => RN 25 w v R50), .is (.int .i64 C3), .is (.bool true), .is (.bool true), .is (.bool true), .is (.pointer (some ⟨X9_3, 0, none⟩)), .is (.agg #[.bool sr2_9x1, .slice pr2_9x1 kr2_9x1 cr2_9x1, .slice qr2_9x1 jr2_9x1 dr2_9x1]), .has (fun v w => RN 1 w v R51), .is (.int .i64 C4), .is (.bool true), .is (.bool true), .is (.bool true), .is (.pointer (some ⟨X9_3, 3, none⟩)), .is (.agg #[.bool sr2_9x2, .slice pr2_9x2 kr2_9x2 cr2_9x2, .slice qr2_9x2 jr2_9x2 dr2_9x2]), .has (fun v w => RN 1 w v R52), .is (.int .i64 C5), .is (.bool true), .is (.bool true), .is (.bool true), .is (.bool true), .is (.bool true)] (by kernel_rfl) (by kernel_rfl) rfl (by simp only [Steady]; exact ⟨fun _ _ _ h hb => h.bel hb, fun _ _ _ h hb => h.bel hb, fun _ _ _ h hb => h.bel hb, fun _ _ _ h hb => h.bel hb, fun _ _ _ h hb => h.bel hb, fun _ _ _ h hb => h.bel hb, fun _ _ _ h hb => h.bel hb, trivial⟩) ?_
  simp only [List.take_succ_cons, List.take_zero, List.drop_succ_cons, List.drop_zero]
  refine fV (by rfl) (fun w1 hw1 _ => load_at rfl rfl (hw1.heap (HBW_.out.heap HXp0.out)) rfl Tryz.underlying72 rfl (by kernel_rfl)) ?_
  simp only [Act.put, sA, sB, sC]
  refine fV (by rfl) (fun w1 hw1 _ => load_at rfl rfl (hw1.heap (HBW_.out.heap HXp1.out)) rfl Tryz.underlying28 rfl (by kernel_rfl)) ?_
  simp only [Act.put, sA, sB, sC]
  refine fV (by rfl) (fun w1 hw1 _ => load_at rfl rfl (hw1.heap (HBW_.out.heap HXp2.out)) rfl Tryz.underlying28 rfl (by kernel_rfl)) ?_
  simp only [Act.put, sA, sB, sC]
  refine fH (by rfl) (by intro w1 hw1 hk1; exact HC10_3.out _ _ _ (HPp.out.bel (HBW.out.trans hw1)) (HPq.out.bel (HBW.out.trans hw1))) (by intro; go_simp) (fun v3 => ?_)
  simp only [Act.put, sA, sB, sC]
  refine fH (by rfl) (by intro w1 hw1 hk1; obtain ⟨g3, -⟩ := hk1; exact HC10_4.out _ _ _ (HPm.out.bel (HBW.out.trans hw1)) g3) (by intro; go_simp) (fun v4 => ?_)
  simp only [Act.put, sA, sB, sC]
  refine fV (by rfl) (fun w1 hw1 _ => load_at rfl rfl (hw1.heap (HBW5_.out.heap HX4_9.out)) rfl Tryz.underlying28 rfl (by kernel_rfl)) ?_
  simp only [Act.put, sA, sB, sC]
  refine fC (by rfl) (by intro w1 hw1 hk1; obtain ⟨g4, -, -⟩ := hk1; exact by have q := HC10_6.out _ _ _ g4 (Hg8_4.out.bel (HBW5_.out.trans hw1)); rw [HL10_6.out] at q; exact q) (by intro; go_simp) ?_
  simp only [Act.put, sA, sB, sC]
  refine fV (by rfl) (by intro w1 hw1 hk1; go_simp) ?_
  simp only [Act.put, sA, sB, sC]
  refine fV (by rfl) (fun w1 hw1 _ => load_at rfl rfl (hw1.heap (HBW11_.out.heap HX7_11.out)) rfl Tryz.underlying28 rfl (by kernel_rfl)) ?_
  simp only [Act.put, sA, sB, sC]
  refine fV (by rfl) (fun w1 hw1 _ => load_at rfl rfl (hw1.heap (HBW_.out.heap HXp0.out)) rfl Tryz.underlying72 rfl (by kernel_rfl)) ?_
  simp only [Act.put, sA, sB, sC]
  refine fV (by rfl) (fun w1 hw1 _ => load_at rfl rfl (hw1.heap (HBW_.out.heap HXp1.out)) rfl Tryz.underlying28 rfl (by kernel_rfl)) ?_
  simp only [Act.put, sA, sB, sC]
  refine fH (by rfl) (by intro w1 hw1 hk1; exact HC10_11.out _ _ _ (HPm.out.bel (HBW.out.trans hw1)) (HPp.out.bel (HBW.out.trans hw1))) (by intro; go_simp) (fun v11 => ?_)
  simp only [Act.put, sA, sB, sC]
  refine fC (by rfl) (by intro w1 hw1 hk1; obtain ⟨g11, -, -, -⟩ := hk1; exact by have q := HC10_12.out _ _ _ (Hg10_7.out.bel (HBW11_.out.trans hw1)) g11; rw [HL10_12.out] at q; exact q) (by intro; go_simp) ?_
  simp only [Act.put, sA, sB, sC]
  refine fV (by rfl) (by intro w1 hw1 hk1; go_simp) ?_
  simp only [Act.put, sA, sB, sC]
  refine fV (by rfl) (by intro w1 hw1 hk1; go_simp) ?_
  simp only [Act.put, sA, sB, sC]
  refine fV (by rfl) (fun w1 hw1 _ => load_at rfl rfl (hw1.heap (HBW7_.out.heap HX5_5.out)) rfl Tryz.underlying28 rfl (by kernel_rfl)) ?_
  simp only [Act.put, sA, sB, sC]
  refine fV (by rfl) (fun w1 hw1 _ => load_at rfl rfl (hw1.heap (HBW9_.out.heap HX6_5.out)) rfl Tryz.underlying28 rfl (by kernel_rfl)) ?_
  simp only [Act.put, sA, sB, sC]
  refine fH (by rfl) (by intro w1 hw1 hk1; exact HC10_17.out _ _ _ (Hg4_5.out.bel (HBW7_.out.trans hw1)) (Hg4_6.out.bel (HBW9_.out.trans hw1))) (by intro; go_simp) (fun v17 => ?_)
  simp only [Act.put, sA, sB, sC]
  refine fV (by rfl) (fun w1 hw1 _ => load_at rfl rfl (hw1.heap (HBW_.out.heap HXp0.out)) rfl Tryz.underlying72 rfl (by kernel_rfl)) ?_
  simp only [Act.put, sA, sB, sC]
  refine fH (by rfl) (by intro w1 hw1 hk1; exact HC10_19.out _ _ (HPm.out.bel (HBW.out.trans hw1))) (by intro; go_simp) (fun v19 => ?_)
  simp only [Act.put, sA, sB, sC]
  refine fC (by rfl) (by intro w1 hw1 hk1; obtain ⟨g19, g17, -, -, -, -⟩ := hk1; exact HC10_20.out _ _ _ g17 g19) (by intro; go_simp) ?_
  simp only [Act.put, sA, sB, sC]
  refine flow_is (by intro w1 hw1 hk1; refine want (by rfl) (gives_val ?_); have q := HL10_21.out; go_simp; (first | done | simp [q] | omega)) ?_
  simp only [Act.put, sA, sB, sC]
  refine fV (by rfl) (by intro w1 hw1 hk1; go_simp) ?_
  simp only [Act.put, sA, sB, sC]
  refine fV (by rfl) (by intro w1 hw1 hk1; go_simp) ?_
  simp only [Act.put, sA, sB, sC]
  refine fV (by rfl) (by intro w1 hw1 hk1; go_simp) ?_
  simp only [Act.put, sA, sB, sC]
  refine fV (by rfl) (fun w1 hw1 _ => load_at rfl rfl (hw1.heap HX9_3.out) rfl Tryz.underlying26 rfl (by kernel_rfl)) ?_
  simp only [Act.put, sA, sB, sC]
  refine fH (by rfl) (by intro w1 hw1 hk1; exact HC10_26.out _) (by intro; go_simp) (fun v26 => ?_)
  simp only [Act.put, sA, sB, sC]
  refine fC (by rfl) (by intro w1 hw1 hk1; obtain ⟨g26, -, -, -, -, -, -⟩ := hk1; exact HC10_27.out _ _ _ (Hg2_9_1.out.bel hw1) g26) (by intro; go_simp) ?_
  simp only [Act.put, sA, sB, sC]
  refine flow_is (by intro w1 hw1 hk1; refine want (by rfl) (gives_val ?_); have q := HL10_28.out; go_simp; (first | done | simp [q] | omega)) ?_
  simp only [Act.put, sA, sB, sC]
  refine fV (by rfl) (by intro w1 hw1 hk1; go_simp) ?_
  simp only [Act.put, sA, sB, sC]
  refine fV (by rfl) (by intro w1 hw1 hk1; go_simp) ?_
  simp only [Act.put, sA, sB, sC]
  refine fV (by rfl) (by intro w1 hw1 hk1; go_simp) ?_
  simp only [Act.put, sA, sB, sC]
  refine fV (by rfl) (fun w1 hw1 _ => load_at rfl rfl (hw1.heap HX9_3.out) rfl Tryz.underlying26 rfl (by kernel_rfl)) ?_
  simp only [Act.put, sA, sB, sC]
  refine fH (by rfl) (by intro w1 hw1 hk1; exact HC10_33.out _) (by intro; go_simp) (fun v33 => ?_)
  simp only [Act.put, sA, sB, sC]
  refine fC (by rfl) (by intro w1 hw1 hk1; obtain ⟨g33, -, -, -, -, -, -, -⟩ := hk1; exact HC10_34.out _ _ _ (Hg2_9_2.out.bel hw1) g33) (by intro; go_simp) ?_
  simp only [Act.put, sA, sB, sC]
  refine flow_is (by intro w1 hw1 hk1; refine want (by rfl) (gives_val ?_); have q := HL10_35.out; go_simp; (first | done | simp [q] | omega)) ?_
  simp only [Act.put, sA, sB, sC]
  refine fV (by rfl) (by intro w1 hw1 hk1; go_simp) ?_
  simp only [Act.put, sA, sB, sC]
  refine fV (by rfl) (by intro w1 hw1 hk1; go_simp) ?_
  simp only [Act.put, sA, sB, sC]
  refine fC (by rfl) (by intro w1 hw1 hk1; exact HC10_38.out _) (by intro; go_simp) ?_
  simp only [Act.put, sA, sB, sC]
  refine fV (by rfl) (by intro w1 hw1 hk1; go_simp) ?_
  simp only [Act.put, sA, sB, sC]
  intro W16 hW16 hk1
  obtain ⟨g33, g26, g19, g17, g11, g4, g3, -⟩ := hk1
  have hfb := HBW.out.trans hW16
  clear hW16 g3 g4 g11 g17 g19 g26 g33
  go_wp2
  go_ret
  exact ⟨_, rfl, hfb, rfl⟩
set_option maxHeartbeats 4000000 in
set_option maxRecDepth 100000 in
theorem matParts_wakes1 {w : World} (mx my mz : Rp) (p : Rp) (q : Rp) (HFm : [mx, my, mz].all (Rp.ok 6) = false) : Calls Tryz.prog 10 #[.agg (mx.row ++ my.row ++ mz.row).toArray, .agg p.row.toArray, .agg q.row.toArray] w (Makes w fun v _ => v = .bool true) := by
  obtain ⟨sm1, pm1, km1, cm1, qm1, jm1, dm1, sm2, pm2, km2, cm2, qm2, jm2, dm2⟩ := mx
  obtain ⟨sm3, pm3, km3, cm3, qm3, jm3, dm3, sm4, pm4, km4, cm4, qm4, jm4, dm4⟩ := my
  obtain ⟨sm5, pm5, km5, cm5, qm5, jm5, dm5, sm6, pm6, km6, cm6, qm6, jm6, dm6⟩ := mz
  obtain ⟨sp1, pp1, kp1, cp1, qp1, jp1, dp1, sp2, pp2, kp2, cp2, qp2, jp2, dp2⟩ := p
  obtain ⟨sq1, pq1, kq1, cq1, qq1, jq1, dq1, sq2, pq2, kq2, cq2, qq2, jq2, dq2⟩ := q
  simp only [Rp.row, List.cons_append, List.nil_append] at ⊢
  have HC1_1 : Hid (∀ X, Calls Tryz.prog 51 #[.agg #[.bool sm1, .slice pm1 km1 cm1, .slice qm1 jm1 dm1, .bool sm2, .slice pm2 km2 cm2, .slice qm2 jm2 dm2, .bool sm3, .slice pm3 km3 cm3, .slice qm3 jm3 dm3, .bool sm4, .slice pm4 km4 cm4, .slice qm4 jm4 dm4, .bool sm5, .slice pm5 km5 cm5, .slice qm5 jm5 dm5, .bool sm6, .slice pm6 km6 cm6, .slice qm6 jm6 dm6]] X (Makes X (fun v _ => v = .bool false))) := fun X => au_fair09 ⟨sm1, pm1, km1, cm1, qm1, jm1, dm1, sm2, pm2, km2, cm2, qm2, jm2, dm2⟩ ⟨sm3, pm3, km3, cm3, qm3, jm3, dm3, sm4, pm4, km4, cm4, qm4, jm4, dm4⟩ ⟨sm5, pm5, km5, cm5, qm5, jm5, dm5, sm6, pm6, km6, cm6, qm6, jm6, dm6⟩ X _ HFm
  have HC2_0 : Hid (∀ X, Calls Tryz.prog 52 #[] X (Makes X (fun v _ => v = .bool true))) := fun X => wakes09_any X
  go_enter Tryz.func10, Tryz.ntmps10
  go_upto_region 1 with fail
  obtain ⟨hXp0, hXp1, hXp2, hbw⟩ := boxes3 w (.cells #[.bool sm1, .slice pm1 km1 cm1, .slice qm1 jm1 dm1, .bool sm2, .slice pm2 km2 cm2, .slice qm2 jm2 dm2, .bool sm3, .slice pm3 km3 cm3, .slice qm3 jm3 dm3, .bool sm4, .slice pm4 km4 cm4, .slice qm4 jm4 dm4, .bool sm5, .slice pm5 km5 cm5, .slice qm5 jm5 dm5, .bool sm6, .slice pm6 km6 cm6, .slice qm6 jm6 dm6] 72) (.cells #[.bool sp1, .slice pp1 kp1 cp1, .slice qp1 jp1 dp1, .bool sp2, .slice pp2 kp2 cp2, .slice qp2 jp2 dp2] 28) (.cells #[.bool sq1, .slice pq1 kq1 cq1, .slice qq1 jq1 dq1, .bool sq2, .slice pq2 kq2 cq2, .slice qq2 jq2 dq2] 28)
  obtain ⟨W, hW⟩ : ∃ W, ((w.alloc (.cells #[.bool sm1, .slice pm1 km1 cm1, .slice qm1 jm1 dm1, .bool sm2, .slice pm2 km2 cm2, .slice qm2 jm2 dm2, .bool sm3, .slice pm3 km3 cm3, .slice qm3 jm3 dm3, .bool sm4, .slice pm4 km4 cm4, .slice qm4 jm4 dm4, .bool sm5, .slice pm5 km5 cm5, .slice qm5 jm5 dm5, .bool sm6, .slice pm6 km6 cm6, .slice qm6 jm6 dm6] 72)).alloc (.cells #[.bool sp1, .slice pp1 kp1 cp1, .slice qp1 jp1 dp1, .bool sp2, .slice pp2 kp2 cp2, .slice qp2 jp2 dp2] 28)).alloc (.cells #[.bool sq1, .slice pq1 kq1 cq1, .slice qq1 jq1 dq1, .bool sq2, .slice pq2 kq2 cq2, .slice qq2 jq2 dq2] 28) = W := ⟨_, rfl⟩
  rw [hW] at hXp0 hXp1 hXp2 hbw ⊢
  obtain ⟨Xp0, eXp0⟩ : ∃ X, w.heap.size = X := ⟨_, rfl⟩
  obtain ⟨Xp1, eXp1⟩ : ∃ X, Xp0 + 1 = X := ⟨_, rfl⟩
  obtain ⟨Xp2, eXp2⟩ : ∃ X, Xp1 + 1 = X := ⟨_, rfl⟩
  rw [eXp0, eXp1, eXp2]
  rw [eXp0] at hXp0 hXp1 hXp2
  rw [eXp1] at hXp1 hXp2
  rw [eXp2] at hXp2
  have HXp0 := Lib.hid hXp0
  have HXp1 := Lib.hid hXp1
  have HXp2 := Lib.hid hXp2
  have HBW := Lib.hid hbw
  have HGEXp0 : Hid (w.heap.size ≤ Xp0) := by unfold Hid; omega
  have HGEXp1 : Hid (w.heap.size ≤ Xp1) := by unfold Hid; omega
  have HGEXp2 : Hid (w.heap.size ≤ Xp2) := by unfold Hid; omega
  have HLT : Hid (Xp0 < Xp1 ∧ Xp1 < Xp2) := by unfold Hid; omega
  clear hW hbw hXp0 hXp1 hXp2 eXp0 eXp1 eXp2
  refine line_region 10 [[], [0], [1], [2], [3], [3], [3, 4, 5], [3, 6], [3, 7], [3, 8]] [.is (.agg #[.bool sm1, .slice pm1 km1 cm1, .slice qm1 jm1 dm1, .bool sm2, .slice pm2 km2 cm2, .slice qm2 jm2 dm2, .bool sm3, .slice pm3 km3 cm3, .slice qm3 jm3 dm3, .bool sm4, .slice pm4 km4 cm4, .slice qm4 jm4 dm4, .bool sm5, .slice pm5 km5 cm5, .slice qm5 jm5 dm5, .bool sm6, .slice pm6 km6 cm6, .slice qm6 jm6 dm6]), .is (.bool false), .is (.bool true), .is (.bool true), .is undef, .is undef, .is undef, .is undef, .is undef, .is (.bool true)] rfl rfl (by decide) (by simp only [Steady]) ?_
  simp only [List.take_succ_cons, List.take_zero, List.drop_succ_cons, List.drop_zero]
  refine fV (by rfl) (fun w1 hw1 _ => load_at rfl rfl (hw1.heap HXp0.out) rfl Tryz.underlying72 rfl (by kernel_rfl)) ?_
  simp only [Act.put, sA, sB, sC]
  refine fC (by rfl) (by intro w1 hw1 hk1; exact HC1_1.out _) (by intro; go_simp) ?_
  simp only [Act.put, sA, sB, sC]
  refine fV (by rfl) (by intro w1 hw1 hk1; go_simp) ?_
  simp only [Act.put, sA, sB, sC]
  refine fV (by rfl) (by intro w1 hw1 hk1; go_simp) ?_
  simp only [Act.put, sA, sB, sC]
  refine flow_is (fun w1 hw1 hk1 => wantnot (fun h => Bool.noConfusion (show false = true from h)) rfl) ?_
  simp only [Act.put, sA, sB, sC]
  refine flow_is (fun w1 hw1 hk1 => wantnot (fun h => Bool.noConfusion (show false = true from h)) rfl) ?_
  simp only [Act.put, sA, sB, sC]
  refine flow_is (fun w1 hw1 hk1 => wantnot (fun h => Bool.noConfusion (show false = true from h)) rfl) ?_
  simp only [Act.put, sA, sB, sC]
  refine flow_is (fun w1 hw1 hk1 => wantnot (fun h => Bool.noConfusion (show false = true from h)) rfl) ?_
  simp only [Act.put, sA, sB, sC]
  refine flow_is (fun w1 hw1 hk1 => wantnot (fun h => Bool.noConfusion (show false = true from h)) rfl) ?_
  simp only [Act.put, sA, sB, sC]
  refine fV (by rfl) (by intro w1 hw1 hk1; go_simp) ?_
  simp only [Act.put, sA, sB, sC]
  intro W1 hW1 hk1
  have hb2 := hW1
  replace HBW := Lib.hid (HBW.out.trans hb2)
  have HBW_ := Lib.hid hb2
  clear hW1 hb2
  go_upto_region 2 with fail
  refine line_region 1 [[]] [.is (.bool true)] rfl rfl (by decide) (by simp only [Steady]) ?_
  simp only [List.take_succ_cons, List.take_zero, List.drop_succ_cons, List.drop_zero]
  refine fC (by rfl) (by intro w1 hw1 hk1; exact HC2_0.out _) (by intro; go_simp) ?_
  simp only [Act.put, sA, sB, sC]
  intro W2 hW2 hk1
  have hfb := HBW.out.trans hW2
  clear hW2
  go_wp2
  go_ret
  exact ⟨_, rfl, hfb, rfl⟩
set_option maxHeartbeats 4000000 in
set_option maxRecDepth 100000 in
theorem matParts_wakes2 {w : World} (mx my mz : Rp) (p : Rp) (q : Rp) (HFm : [mx, my, mz].all (Rp.ok 6) = true) (HFAIR : [p, q].all (Rp.ok 6) = false) : Calls Tryz.prog 10 #[.agg (mx.row ++ my.row ++ mz.row).toArray, .agg p.row.toArray, .agg q.row.toArray] w (Makes w fun v _ => v = .bool true) := by
  obtain ⟨sm1, pm1, km1, cm1, qm1, jm1, dm1, sm2, pm2, km2, cm2, qm2, jm2, dm2⟩ := mx
  obtain ⟨sm3, pm3, km3, cm3, qm3, jm3, dm3, sm4, pm4, km4, cm4, qm4, jm4, dm4⟩ := my
  obtain ⟨sm5, pm5, km5, cm5, qm5, jm5, dm5, sm6, pm6, km6, cm6, qm6, jm6, dm6⟩ := mz
  obtain ⟨sp1, pp1, kp1, cp1, qp1, jp1, dp1, sp2, pp2, kp2, cp2, qp2, jp2, dp2⟩ := p
  obtain ⟨sq1, pq1, kq1, cq1, qq1, jq1, dq1, sq2, pq2, kq2, cq2, qq2, jq2, dq2⟩ := q
  simp only [Rp.row, List.cons_append, List.nil_append] at ⊢
  have HC1_1 : Hid (∀ X, Calls Tryz.prog 51 #[.agg #[.bool sm1, .slice pm1 km1 cm1, .slice qm1 jm1 dm1, .bool sm2, .slice pm2 km2 cm2, .slice qm2 jm2 dm2, .bool sm3, .slice pm3 km3 cm3, .slice qm3 jm3 dm3, .bool sm4, .slice pm4 km4 cm4, .slice qm4 jm4 dm4, .bool sm5, .slice pm5 km5 cm5, .slice qm5 jm5 dm5, .bool sm6, .slice pm6 km6 cm6, .slice qm6 jm6 dm6]] X (Makes X (fun v _ => v = .bool true))) := fun X => au_fair09 ⟨sm1, pm1, km1, cm1, qm1, jm1, dm1, sm2, pm2, km2, cm2, qm2, jm2, dm2⟩ ⟨sm3, pm3, km3, cm3, qm3, jm3, dm3, sm4, pm4, km4, cm4, qm4, jm4, dm4⟩ ⟨sm5, pm5, km5, cm5, qm5, jm5, dm5, sm6, pm6, km6, cm6, qm6, jm6, dm6⟩ X _ HFm
  have HC1_7 : Hid (∀ X u0, RpSl [⟨sp1, pp1, kp1, cp1, qp1, jp1, dp1, sp2, pp2, kp2, cp2, qp2, jp2, dp2⟩, ⟨sq1, pq1, kq1, cq1, qq1, jq1, dq1, sq2, pq2, kq2, cq2, qq2, jq2, dq2⟩] u0 X → Calls Tryz.prog 12 #[u0] X (Makes X (fun v _ => v = .bool false))) := fun X u0 h0 => au_fair h0 (by simp) HFAIR
  have HC2_0 : Hid (∀ X, Calls Tryz.prog 52 #[] X (Makes X (fun v _ => v = .bool true))) := fun X => wakes09_any X
  go_enter Tryz.func10, Tryz.ntmps10
  go_upto_region 1 with fail
  obtain ⟨hXp0, hXp1, hXp2, hbw⟩ := boxes3 w (.cells #[.bool sm1, .slice pm1 km1 cm1, .slice qm1 jm1 dm1, .bool sm2, .slice pm2 km2 cm2, .slice qm2 jm2 dm2, .bool sm3, .slice pm3 km3 cm3, .slice qm3 jm3 dm3, .bool sm4, .slice pm4 km4 cm4, .slice qm4 jm4 dm4, .bool sm5, .slice pm5 km5 cm5, .slice qm5 jm5 dm5, .bool sm6, .slice pm6 km6 cm6, .slice qm6 jm6 dm6] 72) (.cells #[.bool sp1, .slice pp1 kp1 cp1, .slice qp1 jp1 dp1, .bool sp2, .slice pp2 kp2 cp2, .slice qp2 jp2 dp2] 28) (.cells #[.bool sq1, .slice pq1 kq1 cq1, .slice qq1 jq1 dq1, .bool sq2, .slice pq2 kq2 cq2, .slice qq2 jq2 dq2] 28)
  obtain ⟨W, hW⟩ : ∃ W, ((w.alloc (.cells #[.bool sm1, .slice pm1 km1 cm1, .slice qm1 jm1 dm1, .bool sm2, .slice pm2 km2 cm2, .slice qm2 jm2 dm2, .bool sm3, .slice pm3 km3 cm3, .slice qm3 jm3 dm3, .bool sm4, .slice pm4 km4 cm4, .slice qm4 jm4 dm4, .bool sm5, .slice pm5 km5 cm5, .slice qm5 jm5 dm5, .bool sm6, .slice pm6 km6 cm6, .slice qm6 jm6 dm6] 72)).alloc (.cells #[.bool sp1, .slice pp1 kp1 cp1, .slice qp1 jp1 dp1, .bool sp2, .slice pp2 kp2 cp2, .slice qp2 jp2 dp2] 28)).alloc (.cells #[.bool sq1, .slice pq1 kq1 cq1, .slice qq1 jq1 dq1, .bool sq2, .slice pq2 kq2 cq2, .slice qq2 jq2 dq2] 28) = W := ⟨_, rfl⟩
  rw [hW] at hXp0 hXp1 hXp2 hbw ⊢
  obtain ⟨Xp0, eXp0⟩ : ∃ X, w.heap.size = X := ⟨_, rfl⟩
  obtain ⟨Xp1, eXp1⟩ : ∃ X, Xp0 + 1 = X := ⟨_, rfl⟩
  obtain ⟨Xp2, eXp2⟩ : ∃ X, Xp1 + 1 = X := ⟨_, rfl⟩
  rw [eXp0, eXp1, eXp2]
  rw [eXp0] at hXp0 hXp1 hXp2
  rw [eXp1] at hXp1 hXp2
  rw [eXp2] at hXp2
  have HXp0 := Lib.hid hXp0
  have HXp1 := Lib.hid hXp1
  have HXp2 := Lib.hid hXp2
  have HBW := Lib.hid hbw
  have HGEXp0 : Hid (w.heap.size ≤ Xp0) := by unfold Hid; omega
  have HGEXp1 : Hid (w.heap.size ≤ Xp1) := by unfold Hid; omega
  have HGEXp2 : Hid (w.heap.size ≤ Xp2) := by unfold Hid; omega
  have HLT : Hid (Xp0 < Xp1 ∧ Xp1 < Xp2) := by unfold Hid; omega
  clear hW hbw hXp0 hXp1 hXp2 eXp0 eXp1 eXp2
  refine line_region 10 [[], [0], [1], [2], [3], [3], [3, 4, 5], [3, 6], [3, 7], [3, 8]] [.is (.agg #[.bool sm1, .slice pm1 km1 cm1, .slice qm1 jm1 dm1, .bool sm2, .slice pm2 km2 cm2, .slice qm2 jm2 dm2, .bool sm3, .slice pm3 km3 cm3, .slice qm3 jm3 dm3, .bool sm4, .slice pm4 km4 cm4, .slice qm4 jm4 dm4, .bool sm5, .slice pm5 km5 cm5, .slice qm5 jm5 dm5, .bool sm6, .slice pm6 km6 cm6, .slice qm6 jm6 dm6]), .is (.bool true), .is (.bool false), .is (.bool false), .is (.agg #[.bool sp1, .slice pp1 kp1 cp1, .slice qp1 jp1 dp1, .bool sp2, .slice pp2 kp2 cp2, .slice qp2 jp2 dp2]), .is (.agg #[.bool sq1, .slice pq1 kq1 cq1, .slice qq1 jq1 dq1, .bool sq2, .slice pq2 kq2 cq2, .slice qq2 jq2 dq2]), .has (fun v w => RpSl [⟨sp1, pp1, kp1, cp1, qp1, jp1, dp1, sp2, pp2, kp2, cp2, qp2, jp2, dp2⟩, ⟨sq1, pq1, kq1, cq1, qq1, jq1, dq1, sq2, pq2, kq2, cq2, qq2, jq2, dq2⟩] v w), .is (.bool false), .is (.bool true), .is (.bool true)] rfl rfl (by decide) (by simp only [Steady]; exact ⟨fun _ _ _ h hb => h.bel hb, trivial⟩) ?_
  simp only [List.take_succ_cons, List.take_zero, List.drop_succ_cons, List.drop_zero]
  refine fV (by rfl) (fun w1 hw1 _ => load_at rfl rfl (hw1.heap HXp0.out) rfl Tryz.underlying72 rfl (by kernel_rfl)) ?_
  simp only [Act.put, sA, sB, sC]
  refine fC (by rfl) (by intro w1 hw1 hk1; exact HC1_1.out _) (by intro; go_simp) ?_
  simp only [Act.put, sA, sB, sC]
  refine fV (by rfl) (by intro w1 hw1 hk1; go_simp) ?_
  simp only [Act.put, sA, sB, sC]
  refine fV (by rfl) (by intro w1 hw1 hk1; go_simp) ?_
  simp only [Act.put, sA, sB, sC]
  refine fV (by rfl) (fun w1 hw1 _ => load_at rfl rfl (hw1.heap HXp1.out) rfl Tryz.underlying28 rfl (by kernel_rfl)) ?_
  simp only [Act.put, sA, sB, sC]
  refine fV (by rfl) (fun w1 hw1 _ => load_at rfl rfl (hw1.heap HXp2.out) rfl Tryz.underlying28 rfl (by kernel_rfl)) ?_
  simp only [Act.put, sA, sB, sC]
  refine flow_has (by intro w1 hw1 hk1; refine want (by rfl) (gives_new (c := .slice (some ⟨w1.heap.size, 0, none⟩) 2 2) (w' := w1.alloc (.cells #[.bool sp1, .slice pp1 kp1 cp1, .slice qp1 jp1 dp1, .bool sp2, .slice pp2 kp2 cp2, .slice qp2 jp2 dp2, .bool sq1, .slice pq1 kq1 cq1, .slice qq1 jq1 dq1, .bool sq2, .slice pq2 kq2 cq2, .slice qq2 jq2 dq2] 28)) (by go_simp) ((Bel.refl w1).alloc _) (RpSl.new [⟨sp1, pp1, kp1, cp1, qp1, jp1, dp1, sp2, pp2, kp2, cp2, qp2, jp2, dp2⟩, ⟨sq1, pq1, kq1, cq1, qq1, jq1, dq1, sq2, pq2, kq2, cq2, qq2, jq2, dq2⟩] w1))) (fun v6 => ?_)
  simp only [Act.put, sA, sB, sC]
  refine fC (by rfl) (by intro w1 hw1 hk1; obtain ⟨g6, -⟩ := hk1; exact HC1_7.out _ _ g6) (by intro; go_simp) ?_
  simp only [Act.put, sA, sB, sC]
  refine fV (by rfl) (by intro w1 hw1 hk1; go_simp) ?_
  simp only [Act.put, sA, sB, sC]
  refine fV (by rfl) (by intro w1 hw1 hk1; go_simp) ?_
  simp only [Act.put, sA, sB, sC]
  intro W1 hW1 hk1
  obtain ⟨g6, -⟩ := hk1
  have hb2 := hW1
  replace HBW := Lib.hid (HBW.out.trans hb2)
  have HBW_ := Lib.hid hb2
  clear hW1 g6 hb2
  go_upto_region 2 with fail
  refine line_region 1 [[]] [.is (.bool true)] rfl rfl (by decide) (by simp only [Steady]) ?_
  simp only [List.take_succ_cons, List.take_zero, List.drop_succ_cons, List.drop_zero]
  refine fC (by rfl) (by intro w1 hw1 hk1; exact HC2_0.out _) (by intro; go_simp) ?_
  simp only [Act.put, sA, sB, sC]
  intro W2 hW2 hk1
  have hfb := HBW.out.trans hW2
  clear hW2
  go_wp2
  go_ret
  exact ⟨_, rfl, hfb, rfl⟩
end Go.Proofs.YtafmfnpjhhaikaaGreatDoor
