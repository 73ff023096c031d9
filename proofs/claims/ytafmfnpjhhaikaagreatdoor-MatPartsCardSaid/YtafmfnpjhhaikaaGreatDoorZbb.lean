/-
  gessolaw09.wakes, Fair (printed by gen_maf.py).
-/
import Derived.Test.YtafmfnpjhhaikaaGreatDoorZba
import Derived.Test.YtafmfnpjhhaikaaGreatDoorZao
namespace Go.Proofs.YtafmfnpjhhaikaaGreatDoor
open Go.RowKit Go.Shelf

set_option maxHeartbeats 4000000 in
set_option maxRecDepth 100000 in
theorem wakes09_any (w : World) : Calls Tryz.prog 52 #[] w (Makes w fun v _ => v = .bool true) := by
  obtain ⟨R1, hR1⟩ : ∃ Z, mkRat 65536 65536 = Z := ⟨_, rfl⟩
  obtain ⟨R2, hR2⟩ : ∃ Z, mkRat 0 65536 = Z := ⟨_, rfl⟩
  obtain ⟨R3, hR3⟩ : ∃ Z, mkRat 0 65536 = Z := ⟨_, rfl⟩
  obtain ⟨R4, hR4⟩ : ∃ Z, mkRat 131072 65536 = Z := ⟨_, rfl⟩
  obtain ⟨R5, hR5⟩ : ∃ Z, mkRat 64 64 = Z := ⟨_, rfl⟩
  obtain ⟨R6, hR6⟩ : ∃ Z, mkRat 0 64 = Z := ⟨_, rfl⟩
  have HC1_1 : Hid (∀ X, Calls Tryz.prog 67 #[.agg #[.int .i64 65536, .int .i64 0, .int .i64 0, .int .i64 131072, .int .i64 64, .int .i64 0]] X (Makes X (fun v w => MN 1 w v R1 R2 R3 R4 R5 R6))) := fun X => by subst hR1 hR2 hR3 hR4 hR5 hR6; exact au_mOf (z0 := 65536) (z1 := 0) (z2 := 0) (z3 := 131072) (z4 := 64) (z5 := 0) (by decide) (by decide) (by decide) (by decide) (by decide) (by decide) (by decide) (by decide) (by decide) (by decide) (by decide) (by decide) X
  obtain ⟨R7, hR7⟩ : ∃ Z, ((R4 * ((mkRat 1 1) / ((R1) * (R4) - (R2) * (R3))))) = Z := ⟨_, rfl⟩
  obtain ⟨R8, hR8⟩ : ∃ Z, (((-R2) * ((mkRat 1 1) / ((R1) * (R4) - (R2) * (R3))))) = Z := ⟨_, rfl⟩
  obtain ⟨R9, hR9⟩ : ∃ Z, (((-R3) * ((mkRat 1 1) / ((R1) * (R4) - (R2) * (R3))))) = Z := ⟨_, rfl⟩
  obtain ⟨R10, hR10⟩ : ∃ Z, ((R1 * ((mkRat 1 1) / ((R1) * (R4) - (R2) * (R3))))) = Z := ⟨_, rfl⟩
  obtain ⟨R11, hR11⟩ : ∃ Z, (-(((((R4 * ((mkRat 1 1) / ((R1) * (R4) - (R2) * (R3)))))) * (R5)) + (((((-R3) * ((mkRat 1 1) / ((R1) * (R4) - (R2) * (R3)))))) * (R6)))) = Z := ⟨_, rfl⟩
  obtain ⟨R12, hR12⟩ : ∃ Z, (-((((((-R2) * ((mkRat 1 1) / ((R1) * (R4) - (R2) * (R3)))))) * (R5)) + ((((R1 * ((mkRat 1 1) / ((R1) * (R4) - (R2) * (R3)))))) * (R6)))) = Z := ⟨_, rfl⟩
  have HC2_1 : Hid (∀ X u0, MN 1 X u0 R1 R2 R3 R4 R5 R6 → Calls Tryz.prog 54 #[u0] X (Makes X (Tup (fun v w => MS 48 w v R7 R8 R9 R10 R11 R12) (.int .i64 0)))) := fun X u0 h0 => by subst hR7 hR8 hR9 hR10 hR11 hR12; exact au_minv (nm := 1) (h0.ms (by decide)) (by decide) (by subst hR6 hR5 hR4 hR3 hR2 hR1; decide +kernel)
  obtain ⟨R13, hR13⟩ : ∃ Z, mkRat 0 65536 = Z := ⟨_, rfl⟩
  obtain ⟨R14, hR14⟩ : ∃ Z, mkRat 0 65536 = Z := ⟨_, rfl⟩
  obtain ⟨R15, hR15⟩ : ∃ Z, mkRat 0 65536 = Z := ⟨_, rfl⟩
  obtain ⟨R16, hR16⟩ : ∃ Z, mkRat 0 65536 = Z := ⟨_, rfl⟩
  obtain ⟨R17, hR17⟩ : ∃ Z, mkRat 0 64 = Z := ⟨_, rfl⟩
  obtain ⟨R18, hR18⟩ : ∃ Z, mkRat 0 64 = Z := ⟨_, rfl⟩
  have HC3_1 : Hid (∀ X, Calls Tryz.prog 67 #[.agg #[.int .i64 0, .int .i64 0, .int .i64 0, .int .i64 0, .int .i64 0, .int .i64 0]] X (Makes X (fun v w => MN 1 w v R13 R14 R15 R16 R17 R18))) := fun X => by subst hR13 hR14 hR15 hR16 hR17 hR18; exact au_mOf (z0 := 0) (z1 := 0) (z2 := 0) (z3 := 0) (z4 := 0) (z5 := 0) (by decide) (by decide) (by decide) (by decide) (by decide) (by decide) (by decide) (by decide) (by decide) (by decide) (by decide) (by decide) X
  have HC3_2 : Hid (∀ X u0, MN 1 X u0 R13 R14 R15 R16 R17 R18 → Calls Tryz.prog 54 #[u0] X (Makes X (fun v _ => v = .tuple #[.agg #[.bool false, .slice none 0 0, .slice none 0 0, .bool false, .slice none 0 0, .slice none 0 0, .bool false, .slice none 0 0, .slice none 0 0, .bool false, .slice none 0 0, .slice none 0 0, .bool false, .slice none 0 0, .slice none 0 0, .bool false, .slice none 0 0, .slice none 0 0], .int .i64 12]))) := fun X u0 h0 => au_minv0 (nm := 1) (h0.ms (by decide)) (by decide) (by subst hR18 hR17 hR16 hR15 hR14 hR13; decide +kernel)
  obtain ⟨R19, hR19⟩ : ∃ Z, ((1 : Int) : Rat) = Z := ⟨_, rfl⟩
  obtain ⟨R20, hR20⟩ : ∃ Z, ((1 : Int) : Rat) = Z := ⟨_, rfl⟩
  have HC4_8 : Hid (∀ X, Calls Tryz.prog 43 #[.int .i64 1, .int .i64 1] X (Makes X (fun v w => PN 1 w v R19 R20))) := fun X => by subst hR19 hR20; exact au_P (p := 1) (q := 1) (by decide) (by decide) (by decide) (by decide) X
  obtain ⟨R21, hR21⟩ : ∃ Z, (((R1) * R19) + ((R3) * R20)) + (R5) = Z := ⟨_, rfl⟩
  obtain ⟨R22, hR22⟩ : ∃ Z, (((R2) * R19) + ((R4) * R20)) + (R6) = Z := ⟨_, rfl⟩
  have HC4_9 : Hid (∀ X u0 u1, MN 1 X u0 R1 R2 R3 R4 R5 R6 → PN 1 X u1 R19 R20 → Calls Tryz.prog 59 #[u0, u1] X (Makes X (fun v w => PN 7 w v R21 R22))) := fun X u0 u1 h0 h1 => by subst hR21 hR22; exact au_mapply (nm := 1) (np := 1) (h0.ms (by decide)) (h1.ps (by decide)) (by decide)
  obtain ⟨R23, hR23⟩ : ∃ Z, ((2 : Int) : Rat) = Z := ⟨_, rfl⟩
  obtain ⟨R24, hR24⟩ : ∃ Z, ((2 : Int) : Rat) = Z := ⟨_, rfl⟩
  have HC4_10 : Hid (∀ X, Calls Tryz.prog 43 #[.int .i64 2, .int .i64 2] X (Makes X (fun v w => PN 1 w v R23 R24))) := fun X => by subst hR23 hR24; exact au_P (p := 2) (q := 2) (by decide) (by decide) (by decide) (by decide) X
  obtain ⟨C1, hC1⟩ : ∃ Z, decide (R21 = R23 ∧ R22 = R24) = Z := ⟨_, rfl⟩
  have HC4_11 : Hid (∀ X u0 u1, PN 7 X u0 R21 R22 → PN 1 X u1 R23 R24 → Calls Tryz.prog 34 #[u0, u1] X (Makes X (fun v _ => v = .bool C1))) := fun X u0 u1 h0 h1 => by subst hC1; exact mk_same (i := 7) (j := 1) (h0.ps (by decide)) (h1.ps (by decide)) (by decide)
  obtain ⟨R25, hR25⟩ : ∃ Z, (((R1) * (R7)) + ((R3) * (R8))) = Z := ⟨_, rfl⟩
  obtain ⟨R26, hR26⟩ : ∃ Z, (((R2) * (R7)) + ((R4) * (R8))) = Z := ⟨_, rfl⟩
  obtain ⟨R27, hR27⟩ : ∃ Z, (((R1) * (R9)) + ((R3) * (R10))) = Z := ⟨_, rfl⟩
  obtain ⟨R28, hR28⟩ : ∃ Z, (((R2) * (R9)) + ((R4) * (R10))) = Z := ⟨_, rfl⟩
  obtain ⟨R29, hR29⟩ : ∃ Z, ((((R1) * (R11)) + ((R3) * (R12))) + (R5)) = Z := ⟨_, rfl⟩
  obtain ⟨R30, hR30⟩ : ∃ Z, ((((R2) * (R11)) + ((R4) * (R12))) + (R6)) = Z := ⟨_, rfl⟩
  have HC4_16 : Hid (∀ X u0 u1, MN 1 X u0 R1 R2 R3 R4 R5 R6 → MS 48 X u1 R7 R8 R9 R10 R11 R12 → Calls Tryz.prog 61 #[u0, u1] X (Makes X (fun v w => MN 299 w v R25 R26 R27 R28 R29 R30))) := fun X u0 u1 h0 h1 => by subst hR25 hR26 hR27 hR28 hR29 hR30; exact au_mmul (nm := 1) (nl := 48) (h0.ms (by decide)) h1 (by decide)
  obtain ⟨R31, hR31⟩ : ∃ Z, 1 = Z := ⟨_, rfl⟩
  obtain ⟨R32, hR32⟩ : ∃ Z, 0 = Z := ⟨_, rfl⟩
  obtain ⟨R33, hR33⟩ : ∃ Z, 0 = Z := ⟨_, rfl⟩
  obtain ⟨R34, hR34⟩ : ∃ Z, 1 = Z := ⟨_, rfl⟩
  obtain ⟨R35, hR35⟩ : ∃ Z, 0 = Z := ⟨_, rfl⟩
  obtain ⟨R36, hR36⟩ : ∃ Z, 0 = Z := ⟨_, rfl⟩
  have HC4_17 : Hid (∀ X, Calls Tryz.prog 69 #[] X (Makes X (fun v w => MN 1 w v R31 R32 R33 R34 R35 R36))) := fun X => by subst hR31 hR32 hR33 hR34 hR35 hR36; exact au_mOne X
  obtain ⟨C2, hC2⟩ : ∃ Z, decide (R25 = R31 ∧ R26 = R32 ∧ R27 = R33 ∧ R28 = R34 ∧ R29 = R35 ∧ R30 = R36) = Z := ⟨_, rfl⟩
  have HC4_18 : Hid (∀ X u0 u1, MN 299 X u0 R25 R26 R27 R28 R29 R30 → MN 1 X u1 R31 R32 R33 R34 R35 R36 → Calls Tryz.prog 64 #[u0, u1] X (Makes X (fun v _ => v = .bool C2))) := fun X u0 u1 h0 h1 => by subst hC2; exact au_msame (i := 299) (j := 1) (h0.ms (by decide)) (h1.ms (by decide)) (by decide)
  obtain ⟨R37, hR37⟩ : ∃ Z, (R1) * (R4) - (R2) * (R3) = Z := ⟨_, rfl⟩
  have HC4_22 : Hid (∀ X u0, MN 1 X u0 R1 R2 R3 R4 R5 R6 → Calls Tryz.prog 63 #[u0] X (Makes X (fun v w => RN 5 w v R37))) := fun X u0 h0 => by subst hR37; exact au_mdet (nm := 1) (h0.ms (by decide)) (by decide)
  have HC4_23 : Hid (∀ X u0, RN 5 X u0 R37 → Calls Tryz.prog 72 #[u0] X (Makes X (fun v _ => v = .string ⟨#[50]⟩))) := fun X u0 h0 => rtext_lit (l := [50]) (i := 5) (h0.rs (by decide)) (by decide) (by subst hR37 hR4 hR3 hR2 hR1; decide +kernel)
  have HL4_11 : Hid (C1 = true) := by unfold Hid; subst hC1 hR24 hR23 hR22 hR21 hR20 hR19 hR6 hR5 hR4 hR3 hR2 hR1; decide +kernel
  have HL4_18 : Hid (C2 = true) := by unfold Hid; subst hC2 hR36 hR35 hR34 hR33 hR32 hR31 hR30 hR29 hR28 hR27 hR26 hR25 hR12 hR11 hR10 hR9 hR8 hR7 hR6 hR5 hR4 hR3 hR2 hR1; decide +kernel
  clear hR1 hR2 hR3 hR4 hR5 hR6 hR7 hR8 hR9 hR10 hR11 hR12 hR13 hR14 hR15 hR16 hR17 hR18 hR19 hR20 hR21 hR22 hR23 hR24 hC1 hR25 hR26 hR27 hR28 hR29 hR30 hR31 hR32 hR33 hR34 hR35 hR36 hC2 hR37
  go_enter Tryz.func52, Tryz.ntmps52
  go_upto_region 1 with fail
  have HBW : Hid (Bel w w) := Bel.refl w
  refine line_region 3 [[], [0], []] [.is (.agg #[.int .i64 65536, .int .i64 0, .int .i64 0, .int .i64 131072, .int .i64 64, .int .i64 0]), .has (fun v w => MN 1 w v R1 R2 R3 R4 R5 R6), .has (fun v y => NewBox w 72 #[.bool false, .slice none 0 0, .slice none 0 0, .bool false, .slice none 0 0, .slice none 0 0, .bool false, .slice none 0 0, .slice none 0 0, .bool false, .slice none 0 0, .slice none 0 0, .bool false, .slice none 0 0, .slice none 0 0, .bool false, .slice none 0 0, .slice none 0 0] v y)] rfl rfl (by decide) (by simp only [Steady]; exact ⟨fun _ _ _ h hb => h.bel hb, fun _ _ _ h hb => h.bel hb, trivial⟩) ?_
  simp only [List.take_succ_cons, List.take_zero, List.drop_succ_cons, List.drop_zero]
  refine fV (by rfl) (by intro w1 hw1 hk1; go_simp) ?_
  simp only [Act.put, sA, sB, sC]
  refine fH (by rfl) (by intro w1 hw1 hk1; exact HC1_1.out _) (by intro; go_simp) (fun v1 => ?_)
  simp only [Act.put, sA, sB, sC]
  refine flow_has (by intro w1 hw1 hk1; refine want (by rfl) (gives_new (c := .pointer (some ⟨w1.heap.size, 0, none⟩)) (w' := w1.alloc (.cells #[.bool false, .slice none 0 0, .slice none 0 0, .bool false, .slice none 0 0, .slice none 0 0, .bool false, .slice none 0 0, .slice none 0 0, .bool false, .slice none 0 0, .slice none 0 0, .bool false, .slice none 0 0, .slice none 0 0, .bool false, .slice none 0 0, .slice none 0 0] 72)) (by go_simp) ((Bel.refl w1).alloc _) ?_); exact NewBox.new hw1) (fun v2 => ?_)
  simp only [Act.put, sA, sB, sC]
  intro W1 hW1 hk1
  obtain ⟨g2, g1, -⟩ := hk1
  have hnn2 := g2
  clear g2
  obtain ⟨X1_2, rfl, hgeX1_2, hxX1_2⟩ := hnn2
  obtain ⟨sr1_1x1, pr1_1x1, kr1_1x1, cr1_1x1, qr1_1x1, jr1_1x1, dr1_1x1, sr1_1x2, pr1_1x2, kr1_1x2, cr1_1x2, qr1_1x2, jr1_1x2, dr1_1x2, sr1_1x3, pr1_1x3, kr1_1x3, cr1_1x3, qr1_1x3, jr1_1x3, dr1_1x3, sr1_1x4, pr1_1x4, kr1_1x4, cr1_1x4, qr1_1x4, jr1_1x4, dr1_1x4, sr1_1x5, pr1_1x5, kr1_1x5, cr1_1x5, qr1_1x5, jr1_1x5, dr1_1x5, sr1_1x6, pr1_1x6, kr1_1x6, cr1_1x6, qr1_1x6, jr1_1x6, dr1_1x6, rfl, g1_1, g1_2, g1_3, g1_4, g1_5, g1_6⟩ := g1.parts
  have ht0 := stoW (w := w) (t := 72) [.bool sr1_1x1, .slice pr1_1x1 kr1_1x1 cr1_1x1, .slice qr1_1x1 jr1_1x1 dr1_1x1, .bool sr1_1x2, .slice pr1_1x2 kr1_1x2 cr1_1x2, .slice qr1_1x2 jr1_1x2 dr1_1x2, .bool sr1_1x3, .slice pr1_1x3 kr1_1x3 cr1_1x3, .slice qr1_1x3 jr1_1x3 dr1_1x3, .bool sr1_1x4, .slice pr1_1x4 kr1_1x4 cr1_1x4, .slice qr1_1x4 jr1_1x4 dr1_1x4, .bool sr1_1x5, .slice pr1_1x5 kr1_1x5 cr1_1x5, .slice qr1_1x5 jr1_1x5 dr1_1x5, .bool sr1_1x6, .slice pr1_1x6 kr1_1x6 cr1_1x6, .slice qr1_1x6 jr1_1x6 dr1_1x6] (hxX1_2) (hW1) rfl rfl hgeX1_2
  refine lt_store rfl rfl rfl rfl (hxX1_2) rfl (by kernel_rfl) rfl rfl ?_
  generalize hW2 : World.setCells _ _ _ _ = W2
  go_upto_region 2 with fail
  have hb2 := ht0.bel
  rw [hW2] at hb2
  have Hg1_1 := g1.lim (ht0.lim)
  rw [hW2] at Hg1_1
  replace Hg1_1 := Lib.hid Hg1_1
  have Hg1_1_1 := g1_1.lim (ht0.lim)
  rw [hW2] at Hg1_1_1
  replace Hg1_1_1 := Lib.hid Hg1_1_1
  have Hg1_1_2 := g1_2.lim (ht0.lim)
  rw [hW2] at Hg1_1_2
  replace Hg1_1_2 := Lib.hid Hg1_1_2
  have Hg1_1_3 := g1_3.lim (ht0.lim)
  rw [hW2] at Hg1_1_3
  replace Hg1_1_3 := Lib.hid Hg1_1_3
  have Hg1_1_4 := g1_4.lim (ht0.lim)
  rw [hW2] at Hg1_1_4
  replace Hg1_1_4 := Lib.hid Hg1_1_4
  have Hg1_1_5 := g1_5.lim (ht0.lim)
  rw [hW2] at Hg1_1_5
  replace Hg1_1_5 := Lib.hid Hg1_1_5
  have Hg1_1_6 := g1_6.lim (ht0.lim)
  rw [hW2] at Hg1_1_6
  replace Hg1_1_6 := Lib.hid Hg1_1_6
  have HX1_2 := ht0.heap
  rw [hW2] at HX1_2
  replace HX1_2 := Lib.hid HX1_2
  have hgwX1_2 : w.heap.size ≤ X1_2 := Nat.le_trans HBW.out.size hgeX1_2
  replace HBW := Lib.hid (HBW.out.trans hb2)
  clear hW1 g1 hxX1_2 g1_1 g1_2 g1_3 g1_4 g1_5 g1_6 hgeX1_2 hb2 hW2 ht0
  refine line_region 6 [[], [0], [1], [2], [2], []] [.is (.agg #[.bool sr1_1x1, .slice pr1_1x1 kr1_1x1 cr1_1x1, .slice qr1_1x1 jr1_1x1 dr1_1x1, .bool sr1_1x2, .slice pr1_1x2 kr1_1x2 cr1_1x2, .slice qr1_1x2 jr1_1x2 dr1_1x2, .bool sr1_1x3, .slice pr1_1x3 kr1_1x3 cr1_1x3, .slice qr1_1x3 jr1_1x3 dr1_1x3, .bool sr1_1x4, .slice pr1_1x4 kr1_1x4 cr1_1x4, .slice qr1_1x4 jr1_1x4 dr1_1x4, .bool sr1_1x5, .slice pr1_1x5 kr1_1x5 cr1_1x5, .slice qr1_1x5 jr1_1x5 dr1_1x5, .bool sr1_1x6, .slice pr1_1x6 kr1_1x6 cr1_1x6, .slice qr1_1x6 jr1_1x6 dr1_1x6]), .has (Tup (fun v w => MS 48 w v R7 R8 R9 R10 R11 R12) (.int .i64 0)), .has (Tup (fun v w => MS 48 w v R7 R8 R9 R10 R11 R12) (.int .i64 0)), .has (fun v w => MS 48 w v R7 R8 R9 R10 R11 R12), .is (.int .i64 0), .has (fun v y => NewBox W2 72 #[.bool false, .slice none 0 0, .slice none 0 0, .bool false, .slice none 0 0, .slice none 0 0, .bool false, .slice none 0 0, .slice none 0 0, .bool false, .slice none 0 0, .slice none 0 0, .bool false, .slice none 0 0, .slice none 0 0, .bool false, .slice none 0 0, .slice none 0 0] v y)] rfl rfl (by decide) (by simp only [Steady]; exact ⟨fun _ _ _ h hb => h.bel (fun _ _ _ h hb => h.bel hb) hb, fun _ _ _ h hb => h.bel (fun _ _ _ h hb => h.bel hb) hb, fun _ _ _ h hb => h.bel hb, fun _ _ _ h hb => h.bel hb, trivial⟩) ?_
  simp only [List.take_succ_cons, List.take_zero, List.drop_succ_cons, List.drop_zero]
  refine fV (by rfl) (fun w1 hw1 _ => load_at rfl rfl (hw1.heap HX1_2.out) rfl Tryz.underlying72 rfl (by kernel_rfl)) ?_
  simp only [Act.put, sA, sB, sC]
  refine fH (by rfl) (by intro w1 hw1 hk1; exact HC2_1.out _ _ (Hg1_1.out.bel hw1)) (by intro; go_simp) (fun v1 => ?_)
  simp only [Act.put, sA, sB, sC]
  refine flow_has (by intro w1 hw1 hk1; obtain ⟨g1, -⟩ := hk1; refine want (by rfl) (gives_of (c := v1) (by go_simp) ?_); exact g1) (fun v2 => ?_)
  simp only [Act.put, sA, sB, sC]
  refine flow_has (by intro w1 hw1 hk1; obtain ⟨g2, -, -⟩ := hk1; obtain ⟨u, e, h⟩ := g2; subst e; refine want (by rfl) (gives_of (c := u) (by go_simp) ?_); exact h) (fun v3 => ?_)
  simp only [Act.put, sA, sB, sC]
  refine flow_is (by intro w1 hw1 hk1; obtain ⟨-, g2, -, -⟩ := hk1; obtain ⟨u, e, h⟩ := g2; subst e; refine want (by rfl) (gives_val ?_); go_simp) ?_
  simp only [Act.put, sA, sB, sC]
  refine flow_has (by intro w1 hw1 hk1; refine want (by rfl) (gives_new (c := .pointer (some ⟨w1.heap.size, 0, none⟩)) (w' := w1.alloc (.cells #[.bool false, .slice none 0 0, .slice none 0 0, .bool false, .slice none 0 0, .slice none 0 0, .bool false, .slice none 0 0, .slice none 0 0, .bool false, .slice none 0 0, .slice none 0 0, .bool false, .slice none 0 0, .slice none 0 0, .bool false, .slice none 0 0, .slice none 0 0] 72)) (by go_simp) ((Bel.refl w1).alloc _) ?_); exact NewBox.new hw1) (fun v5 => ?_)
  simp only [Act.put, sA, sB, sC]
  intro W3 hW3 hk1
  obtain ⟨g5, g3, g2, g1, -⟩ := hk1
  have hnn5 := g5
  clear g5
  obtain ⟨X2_5, rfl, hgeX2_5, hxX2_5⟩ := hnn5
  obtain ⟨sr3_2x1, pr3_2x1, kr3_2x1, cr3_2x1, qr3_2x1, jr3_2x1, dr3_2x1, sr3_2x2, pr3_2x2, kr3_2x2, cr3_2x2, qr3_2x2, jr3_2x2, dr3_2x2, sr3_2x3, pr3_2x3, kr3_2x3, cr3_2x3, qr3_2x3, jr3_2x3, dr3_2x3, sr3_2x4, pr3_2x4, kr3_2x4, cr3_2x4, qr3_2x4, jr3_2x4, dr3_2x4, sr3_2x5, pr3_2x5, kr3_2x5, cr3_2x5, qr3_2x5, jr3_2x5, dr3_2x5, sr3_2x6, pr3_2x6, kr3_2x6, cr3_2x6, qr3_2x6, jr3_2x6, dr3_2x6, rfl, g3_1, g3_2, g3_3, g3_4, g3_5, g3_6⟩ := g3.parts
  have ht0 := stoW (w := W2) (t := 72) [.bool sr3_2x1, .slice pr3_2x1 kr3_2x1 cr3_2x1, .slice qr3_2x1 jr3_2x1 dr3_2x1, .bool sr3_2x2, .slice pr3_2x2 kr3_2x2 cr3_2x2, .slice qr3_2x2 jr3_2x2 dr3_2x2, .bool sr3_2x3, .slice pr3_2x3 kr3_2x3 cr3_2x3, .slice qr3_2x3 jr3_2x3 dr3_2x3, .bool sr3_2x4, .slice pr3_2x4 kr3_2x4 cr3_2x4, .slice qr3_2x4 jr3_2x4 dr3_2x4, .bool sr3_2x5, .slice pr3_2x5 kr3_2x5 cr3_2x5, .slice qr3_2x5 jr3_2x5 dr3_2x5, .bool sr3_2x6, .slice pr3_2x6 kr3_2x6 cr3_2x6, .slice qr3_2x6 jr3_2x6 dr3_2x6] (hxX2_5) (hW3) rfl rfl hgeX2_5
  refine lt_store rfl rfl rfl rfl (hxX2_5) rfl (by kernel_rfl) rfl rfl ?_
  generalize hW4 : World.setCells _ _ _ _ = W4
  go_upto_region 3 with fail
  have hb2 := ht0.bel
  rw [hW4] at hb2
  have Hg3_2 := g3.lim (ht0.lim)
  rw [hW4] at Hg3_2
  replace Hg3_2 := Lib.hid Hg3_2
  have Hg3_2_1 := g3_1.lim (ht0.lim)
  rw [hW4] at Hg3_2_1
  replace Hg3_2_1 := Lib.hid Hg3_2_1
  have Hg3_2_2 := g3_2.lim (ht0.lim)
  rw [hW4] at Hg3_2_2
  replace Hg3_2_2 := Lib.hid Hg3_2_2
  have Hg3_2_3 := g3_3.lim (ht0.lim)
  rw [hW4] at Hg3_2_3
  replace Hg3_2_3 := Lib.hid Hg3_2_3
  have Hg3_2_4 := g3_4.lim (ht0.lim)
  rw [hW4] at Hg3_2_4
  replace Hg3_2_4 := Lib.hid Hg3_2_4
  have Hg3_2_5 := g3_5.lim (ht0.lim)
  rw [hW4] at Hg3_2_5
  replace Hg3_2_5 := Lib.hid Hg3_2_5
  have Hg3_2_6 := g3_6.lim (ht0.lim)
  rw [hW4] at Hg3_2_6
  replace Hg3_2_6 := Lib.hid Hg3_2_6
  have HX2_5 := ht0.heap
  rw [hW4] at HX2_5
  replace HX2_5 := Lib.hid HX2_5
  have hgwX2_5 : w.heap.size ≤ X2_5 := Nat.le_trans HBW.out.size hgeX2_5
  replace HBW := Lib.hid (HBW.out.trans hb2)
  have HBW2_ := Lib.hid hb2
  clear hW3 g3 hxX2_5 g1 g2 g3_1 g3_2 g3_3 g3_4 g3_5 g3_6 hgeX2_5 hb2 hW4 ht0
  refine line_region 7 [[], [0], [1], [2], [3], [3], []] [.is (.agg #[.int .i64 0, .int .i64 0, .int .i64 0, .int .i64 0, .int .i64 0, .int .i64 0]), .has (fun v w => MN 1 w v R13 R14 R15 R16 R17 R18), .is (.tuple #[.agg #[.bool false, .slice none 0 0, .slice none 0 0, .bool false, .slice none 0 0, .slice none 0 0, .bool false, .slice none 0 0, .slice none 0 0, .bool false, .slice none 0 0, .slice none 0 0, .bool false, .slice none 0 0, .slice none 0 0, .bool false, .slice none 0 0, .slice none 0 0], .int .i64 12]), .is (.tuple #[.agg #[.bool false, .slice none 0 0, .slice none 0 0, .bool false, .slice none 0 0, .slice none 0 0, .bool false, .slice none 0 0, .slice none 0 0, .bool false, .slice none 0 0, .slice none 0 0, .bool false, .slice none 0 0, .slice none 0 0, .bool false, .slice none 0 0, .slice none 0 0], .int .i64 12]), .is (.agg #[.bool false, .slice none 0 0, .slice none 0 0, .bool false, .slice none 0 0, .slice none 0 0, .bool false, .slice none 0 0, .slice none 0 0, .bool false, .slice none 0 0, .slice none 0 0, .bool false, .slice none 0 0, .slice none 0 0, .bool false, .slice none 0 0, .slice none 0 0]), .is (.int .i64 12), .has (fun v y => NewBox W4 72 #[.bool false, .slice none 0 0, .slice none 0 0, .bool false, .slice none 0 0, .slice none 0 0, .bool false, .slice none 0 0, .slice none 0 0, .bool false, .slice none 0 0, .slice none 0 0, .bool false, .slice none 0 0, .slice none 0 0, .bool false, .slice none 0 0, .slice none 0 0] v y)] rfl rfl (by decide) (by simp only [Steady]; exact ⟨fun _ _ _ h hb => h.bel hb, fun _ _ _ h hb => h.bel hb, trivial⟩) ?_
  simp only [List.take_succ_cons, List.take_zero, List.drop_succ_cons, List.drop_zero]
  refine fV (by rfl) (by intro w1 hw1 hk1; go_simp) ?_
  simp only [Act.put, sA, sB, sC]
  refine fH (by rfl) (by intro w1 hw1 hk1; exact HC3_1.out _) (by intro; go_simp) (fun v1 => ?_)
  simp only [Act.put, sA, sB, sC]
  refine fC (by rfl) (by intro w1 hw1 hk1; obtain ⟨g1, -⟩ := hk1; exact HC3_2.out _ _ g1) (by intro; go_simp) ?_
  simp only [Act.put, sA, sB, sC]
  refine fV (by rfl) (by intro w1 hw1 hk1; go_simp) ?_
  simp only [Act.put, sA, sB, sC]
  refine fV (by rfl) (by intro w1 hw1 hk1; go_simp) ?_
  simp only [Act.put, sA, sB, sC]
  refine fV (by rfl) (by intro w1 hw1 hk1; go_simp) ?_
  simp only [Act.put, sA, sB, sC]
  refine flow_has (by intro w1 hw1 hk1; refine want (by rfl) (gives_new (c := .pointer (some ⟨w1.heap.size, 0, none⟩)) (w' := w1.alloc (.cells #[.bool false, .slice none 0 0, .slice none 0 0, .bool false, .slice none 0 0, .slice none 0 0, .bool false, .slice none 0 0, .slice none 0 0, .bool false, .slice none 0 0, .slice none 0 0, .bool false, .slice none 0 0, .slice none 0 0, .bool false, .slice none 0 0, .slice none 0 0] 72)) (by go_simp) ((Bel.refl w1).alloc _) ?_); exact NewBox.new hw1) (fun v6 => ?_)
  simp only [Act.put, sA, sB, sC]
  intro W5 hW5 hk1
  obtain ⟨g6, g1, -⟩ := hk1
  have hnn6 := g6
  clear g6
  obtain ⟨X3_6, rfl, hgeX3_6, hxX3_6⟩ := hnn6
  have ht0 := stoW (w := W4) (t := 72) [.bool false, .slice none 0 0, .slice none 0 0, .bool false, .slice none 0 0, .slice none 0 0, .bool false, .slice none 0 0, .slice none 0 0, .bool false, .slice none 0 0, .slice none 0 0, .bool false, .slice none 0 0, .slice none 0 0, .bool false, .slice none 0 0, .slice none 0 0] (hxX3_6) (hW5) rfl rfl hgeX3_6
  refine lt_store rfl rfl rfl rfl (hxX3_6) rfl (by kernel_rfl) rfl rfl ?_
  generalize hW6 : World.setCells _ _ _ _ = W6
  go_upto_region 4 with fail
  have hb2 := ht0.bel
  rw [hW6] at hb2
  have HX3_6 := ht0.heap
  rw [hW6] at HX3_6
  replace HX3_6 := Lib.hid HX3_6
  have hgwX3_6 : w.heap.size ≤ X3_6 := Nat.le_trans HBW.out.size hgeX3_6
  replace HBW := Lib.hid (HBW.out.trans hb2)
  replace HBW2_ := Lib.hid (HBW2_.out.trans hb2)
  have HBW4_ := Lib.hid hb2
  clear hW5 hxX3_6 g1 hgeX3_6 hb2 hW6 ht0
  refine region_flow 26 [[], [0], [1], [2], [2, 3], [2, 4], [5], [6], [6], [6, 7, 8], [6], [6, 9, 10], [6, 11], [12], [13], [13], [13, 14, 15], [13], [13, 16, 17], [13, 18], [19], [20], [20, 21], [20, 22], [20, 23], [20, 24]] [.is (.int .i64 0), .is (.bool true), .is (.bool true), .is (.int .i64 12), .is (.bool true), .is (.bool true), .is (.bool true), .is (.agg #[.bool sr1_1x1, .slice pr1_1x1 kr1_1x1 cr1_1x1, .slice qr1_1x1 jr1_1x1 dr1_1x1, .bool sr1_1x2, .slice pr1_1x2 kr1_1x2 cr1_1x2, .slice qr1_1x2 jr1_1x2 dr1_1x2, .bool sr1_1x3, .slice pr1_1x3 kr1_1x3 cr1_1x3, .slice qr1_1x3 jr1_1x3 dr1_1x3, .bool sr1_1x4, .slice pr1_1x4 kr1_1x4 cr1_1x4, .slice qr1_1x4 jr1_1x4 dr1_1x4, .bool sr1_1x5, .slice pr1_1x5 kr1_1x5 cr1_1x5, .slice qr1_1x5 jr1_1x5 dr1_1x5, .bool sr1_1x6, .slice pr1_1x6 kr1_1x6 cr1_1x6, .slice qr1_1x6 jr1_1x6 dr1_1x6]), .has (fun v w => PN 1 w v R19 R20), .has (fun v w => PN 7 w v R21 R22), .has (fun v w => PN 1 w v R23 R24), .is (.bool true), .is (.bool true), .is (.bool true), .is (.agg #[.bool sr1_1x1, .slice pr1_1x1 kr1_1x1 cr1_1x1, .slice qr1_1x1 jr1_1x1 dr1_1x1, .bool sr1_1x2, .slice pr1_1x2 kr1_1x2 cr1_1x2, .slice qr1_1x2 jr1_1x2 dr1_1x2, .bool sr1_1x3, .slice pr1_1x3 kr1_1x3 cr1_1x3, .slice qr1_1x3 jr1_1x3 dr1_1x3, .bool sr1_1x4, .slice pr1_1x4 kr1_1x4 cr1_1x4, .slice qr1_1x4 jr1_1x4 dr1_1x4, .bool sr1_1x5, .slice pr1_1x5 kr1_1x5 cr1_1x5, .slice qr1_1x5 jr1_1x5 dr1_1x5, .bool sr1_1x6, .slice pr1_1x6 kr1_1x6 cr1_1x6, .slice qr1_1x6 jr1_1x6 dr1_1x6]), .is (.agg #[.bool sr3_2x1, .slice pr3_2x1 kr3_2x1 cr3_2x1, .slice qr3_2x1 jr3_2x1 dr3_2x1, .bool sr3_2x2, .slice pr3_2x2 kr3_2x2 cr3_2x2, .slice qr3_2x2 jr3_2x2 dr3_2x2, .bool sr3_2x3, .slice pr3_2x3 kr3_2x3 cr3_2x3, .slice qr3_2x3 jr3_2x3 dr3_2x3, .bool sr3_2x4, .slice pr3_2x4 kr3_2x4 cr3_2x4, .slice qr3_2x4 jr3_2x4 dr3_2x4, .bool sr3_2x5, .slice pr3_2x5 kr3_2x5 cr3_2x5, .slice qr3_2x5 jr3_2x5 dr3_2x5, .bool sr3_2x6, .slice pr3_2x6 kr3_2x6 cr3_2x6, .slice qr3_2x6 jr3_2x6 dr3_2x6]), .has (fun v w => MN 299 w v R25 R26 R27 R28 R29 R30), .has (fun v w => MN 1 w v R31 R32 R33 R34 R35 R36), .is (.bool true), .is (.bool true), .is (.bool true), .is (.agg #[.bool sr1_1x1, .slice pr1_1x1 kr1_1x1 cr1_1x1, .slice qr1_1x1 jr1_1x1 dr1_1x1, .bool sr1_1x2, .slice pr1_1x2 kr1_1x2 cr1_1x2, .slice qr1_1x2 jr1_1x2 dr1_1x2, .bool sr1_1x3, .slice pr1_1x3 kr1_1x3 cr1_1x3, .slice qr1_1x3 jr1_1x3 dr1_1x3, .bool sr1_1x4, .slice pr1_1x4 kr1_1x4 cr1_1x4, .slice qr1_1x4 jr1_1x4 dr1_1x4, .bool sr1_1x5, .slice pr1_1x5 kr1_1x5 cr1_1x5, .slice qr1_1x5 jr1_1x5 dr1_1x5, .bool sr1_1x6, .slice pr1_1x6 kr1_1x6 cr1_1x6, .slice qr1_1x6 jr1_1x6 dr1_1x6]), .has (fun v w => RN 5 w v R37), .is (.string ⟨#[50]⟩), .is (.bool true), .is (.bool true)] (by kernel_rfl) (by kernel_rfl) rfl (by simp only [Steady]; exact ⟨fun _ _ _ h hb => h.bel hb, fun _ _ _ h hb => h.bel hb, fun _ _ _ h hb => h.bel hb, fun _ _ _ h hb => h.bel hb, fun _ _ _ h hb => h.bel hb, fun _ _ _ h hb => h.bel hb, trivial⟩) ?_
  simp only [List.take_succ_cons, List.take_zero, List.drop_succ_cons, List.drop_zero]
  refine fV (by rfl) (by intro w1 hw1 hk1; go_simp) ?_
  simp only [Act.put, sA, sB, sC]
  refine flow_is (by intro w1 hw1 hk1; refine want (by rfl) (gives_val ?_); go_simp; (first | done | rfl)) ?_
  simp only [Act.put, sA, sB, sC]
  refine fV (by rfl) (by intro w1 hw1 hk1; go_simp) ?_
  simp only [Act.put, sA, sB, sC]
  refine fV (by rfl) (by intro w1 hw1 hk1; go_simp) ?_
  simp only [Act.put, sA, sB, sC]
  refine flow_is (by intro w1 hw1 hk1; refine want (by rfl) (gives_val ?_); go_simp; (first | done | rfl)) ?_
  simp only [Act.put, sA, sB, sC]
  refine fV (by rfl) (by intro w1 hw1 hk1; go_simp) ?_
  simp only [Act.put, sA, sB, sC]
  refine fV (by rfl) (by intro w1 hw1 hk1; go_simp) ?_
  simp only [Act.put, sA, sB, sC]
  refine fV (by rfl) (fun w1 hw1 _ => load_at rfl rfl (hw1.heap (HBW2_.out.heap HX1_2.out)) rfl Tryz.underlying72 rfl (by kernel_rfl)) ?_
  simp only [Act.put, sA, sB, sC]
  refine fH (by rfl) (by intro w1 hw1 hk1; exact HC4_8.out _) (by intro; go_simp) (fun v8 => ?_)
  simp only [Act.put, sA, sB, sC]
  refine fH (by rfl) (by intro w1 hw1 hk1; obtain ⟨g8, -⟩ := hk1; exact HC4_9.out _ _ _ (Hg1_1.out.bel (HBW2_.out.trans hw1)) g8) (by intro; go_simp) (fun v9 => ?_)
  simp only [Act.put, sA, sB, sC]
  refine fH (by rfl) (by intro w1 hw1 hk1; exact HC4_10.out _) (by intro; go_simp) (fun v10 => ?_)
  simp only [Act.put, sA, sB, sC]
  refine fC (by rfl) (by intro w1 hw1 hk1; obtain ⟨g10, g9, -, -⟩ := hk1; exact by have q := HC4_11.out _ _ _ g9 g10; rw [HL4_11.out] at q; exact q) (by intro; go_simp) ?_
  simp only [Act.put, sA, sB, sC]
  refine fV (by rfl) (by intro w1 hw1 hk1; go_simp) ?_
  simp only [Act.put, sA, sB, sC]
  refine fV (by rfl) (by intro w1 hw1 hk1; go_simp) ?_
  simp only [Act.put, sA, sB, sC]
  refine fV (by rfl) (fun w1 hw1 _ => load_at rfl rfl (hw1.heap (HBW2_.out.heap HX1_2.out)) rfl Tryz.underlying72 rfl (by kernel_rfl)) ?_
  simp only [Act.put, sA, sB, sC]
  refine fV (by rfl) (fun w1 hw1 _ => load_at rfl rfl (hw1.heap (HBW4_.out.heap HX2_5.out)) rfl Tryz.underlying72 rfl (by kernel_rfl)) ?_
  simp only [Act.put, sA, sB, sC]
  refine fH (by rfl) (by intro w1 hw1 hk1; exact HC4_16.out _ _ _ (Hg1_1.out.bel (HBW2_.out.trans hw1)) (Hg3_2.out.bel (HBW4_.out.trans hw1))) (by intro; go_simp) (fun v16 => ?_)
  simp only [Act.put, sA, sB, sC]
  refine fH (by rfl) (by intro w1 hw1 hk1; exact HC4_17.out _) (by intro; go_simp) (fun v17 => ?_)
  simp only [Act.put, sA, sB, sC]
  refine fC (by rfl) (by intro w1 hw1 hk1; obtain ⟨g17, g16, -, -, -, -⟩ := hk1; exact by have q := HC4_18.out _ _ _ g16 g17; rw [HL4_18.out] at q; exact q) (by intro; go_simp) ?_
  simp only [Act.put, sA, sB, sC]
  refine fV (by rfl) (by intro w1 hw1 hk1; go_simp) ?_
  simp only [Act.put, sA, sB, sC]
  refine fV (by rfl) (by intro w1 hw1 hk1; go_simp) ?_
  simp only [Act.put, sA, sB, sC]
  refine fV (by rfl) (fun w1 hw1 _ => load_at rfl rfl (hw1.heap (HBW2_.out.heap HX1_2.out)) rfl Tryz.underlying72 rfl (by kernel_rfl)) ?_
  simp only [Act.put, sA, sB, sC]
  refine fH (by rfl) (by intro w1 hw1 hk1; exact HC4_22.out _ _ (Hg1_1.out.bel (HBW2_.out.trans hw1))) (by intro; go_simp) (fun v22 => ?_)
  simp only [Act.put, sA, sB, sC]
  refine fC (by rfl) (by intro w1 hw1 hk1; obtain ⟨g22, -, -, -, -, -, -⟩ := hk1; exact HC4_23.out _ _ g22) (by intro; go_simp) ?_
  simp only [Act.put, sA, sB, sC]
  refine flow_is (by intro w1 hw1 hk1; refine want (by rfl) (gives_val ?_); go_simp; (first | done | rfl)) ?_
  simp only [Act.put, sA, sB, sC]
  refine fV (by rfl) (by intro w1 hw1 hk1; go_simp) ?_
  simp only [Act.put, sA, sB, sC]
  intro W7 hW7 hk1
  obtain ⟨g22, g17, g16, g10, g9, g8, -⟩ := hk1
  have hfb := HBW.out.trans hW7
  clear hW7 g8 g9 g10 g16 g17 g22
  go_wp2
  go_ret
  exact ⟨_, rfl, hfb, rfl⟩
set_option maxHeartbeats 4000000 in
set_option maxRecDepth 100000 in
theorem au_fair09 (x y z : Rp) (w : World) (b : Bool) (HFAIR : [x, y, z].all (Rp.ok 6) = b) : Calls Tryz.prog 51 #[.agg (x.row ++ y.row ++ z.row).toArray] w (Makes w fun v _ => v = .bool b) := by
  obtain ⟨sx1, px1, kx1, cx1, qx1, jx1, dx1, sx2, px2, kx2, cx2, qx2, jx2, dx2⟩ := x
  obtain ⟨sy1, py1, ky1, cy1, qy1, jy1, dy1, sy2, py2, ky2, cy2, qy2, jy2, dy2⟩ := y
  obtain ⟨sz1, pz1, kz1, cz1, qz1, jz1, dz1, sz2, pz2, kz2, cz2, qz2, jz2, dz2⟩ := z
  change Calls _ _ #[.agg #[.bool sx1, .slice px1 kx1 cx1, .slice qx1 jx1 dx1, .bool sx2, .slice px2 kx2 cx2, .slice qx2 jx2 dx2, .bool sy1, .slice py1 ky1 cy1, .slice qy1 jy1 dy1, .bool sy2, .slice py2 ky2 cy2, .slice qy2 jy2 dy2, .bool sz1, .slice pz1 kz1 cz1, .slice qz1 jz1 dz1, .bool sz2, .slice pz2 kz2 cz2, .slice qz2 jz2 dz2]] _ _
  have HC1_16 : Hid (∀ X u0, RpSl [⟨sx1, px1, kx1, cx1, qx1, jx1, dx1, sx2, px2, kx2, cx2, qx2, jx2, dx2⟩, ⟨sy1, py1, ky1, cy1, qy1, jy1, dy1, sy2, py2, ky2, cy2, qy2, jy2, dy2⟩, ⟨sz1, pz1, kz1, cz1, qz1, jz1, dz1, sz2, pz2, kz2, cz2, qz2, jz2, dz2⟩] u0 X → Calls Tryz.prog 12 #[u0] X (Makes X (fun v _ => v = .bool b))) := fun X u0 h0 => au_fair h0 (by simp) HFAIR
  go_enter Tryz.func51, Tryz.ntmps51
  go_upto_region 1 with fail
  obtain ⟨hXp0, hbw⟩ := boxes1 w (.cells #[.bool sx1, .slice px1 kx1 cx1, .slice qx1 jx1 dx1, .bool sx2, .slice px2 kx2 cx2, .slice qx2 jx2 dx2, .bool sy1, .slice py1 ky1 cy1, .slice qy1 jy1 dy1, .bool sy2, .slice py2 ky2 cy2, .slice qy2 jy2 dy2, .bool sz1, .slice pz1 kz1 cz1, .slice qz1 jz1 dz1, .bool sz2, .slice pz2 kz2 cz2, .slice qz2 jz2 dz2] 72)
  obtain ⟨W, hW⟩ : ∃ W, w.alloc (.cells #[.bool sx1, .slice px1 kx1 cx1, .slice qx1 jx1 dx1, .bool sx2, .slice px2 kx2 cx2, .slice qx2 jx2 dx2, .bool sy1, .slice py1 ky1 cy1, .slice qy1 jy1 dy1, .bool sy2, .slice py2 ky2 cy2, .slice qy2 jy2 dy2, .bool sz1, .slice pz1 kz1 cz1, .slice qz1 jz1 dz1, .bool sz2, .slice pz2 kz2 cz2, .slice qz2 jz2 dz2] 72) = W := ⟨_, rfl⟩
  rw [hW] at hXp0 hbw ⊢
  obtain ⟨Xp0, eXp0⟩ : ∃ X, w.heap.size = X := ⟨_, rfl⟩
  rw [eXp0]
  rw [eXp0] at hXp0
  have HXp0 := Lib.hid hXp0
  have HBW := Lib.hid hbw
  have HGEXp0 : Hid (w.heap.size ≤ Xp0) := by unfold Hid; omega
  clear hW hbw hXp0 eXp0
  refine line_region 17 [[], [0], [], [2], [1, 3], [], [5], [], [7], [6, 8], [], [10], [], [12], [11, 13], [4, 9, 14], [15]] [.is (.pointer (some ⟨Xp0, 0, none⟩)), .is (.agg #[.bool sx1, .slice px1 kx1 cx1, .slice qx1 jx1 dx1]), .is (.pointer (some ⟨Xp0, 3, none⟩)), .is (.agg #[.bool sx2, .slice px2 kx2 cx2, .slice qx2 jx2 dx2]), .is (.agg #[.bool sx1, .slice px1 kx1 cx1, .slice qx1 jx1 dx1, .bool sx2, .slice px2 kx2 cx2, .slice qx2 jx2 dx2]), .is (.pointer (some ⟨Xp0, 6, none⟩)), .is (.agg #[.bool sy1, .slice py1 ky1 cy1, .slice qy1 jy1 dy1]), .is (.pointer (some ⟨Xp0, 9, none⟩)), .is (.agg #[.bool sy2, .slice py2 ky2 cy2, .slice qy2 jy2 dy2]), .is (.agg #[.bool sy1, .slice py1 ky1 cy1, .slice qy1 jy1 dy1, .bool sy2, .slice py2 ky2 cy2, .slice qy2 jy2 dy2]), .is (.pointer (some ⟨Xp0, 12, none⟩)), .is (.agg #[.bool sz1, .slice pz1 kz1 cz1, .slice qz1 jz1 dz1]), .is (.pointer (some ⟨Xp0, 15, none⟩)), .is (.agg #[.bool sz2, .slice pz2 kz2 cz2, .slice qz2 jz2 dz2]), .is (.agg #[.bool sz1, .slice pz1 kz1 cz1, .slice qz1 jz1 dz1, .bool sz2, .slice pz2 kz2 cz2, .slice qz2 jz2 dz2]), .has (fun v w => RpSl [⟨sx1, px1, kx1, cx1, qx1, jx1, dx1, sx2, px2, kx2, cx2, qx2, jx2, dx2⟩, ⟨sy1, py1, ky1, cy1, qy1, jy1, dy1, sy2, py2, ky2, cy2, qy2, jy2, dy2⟩, ⟨sz1, pz1, kz1, cz1, qz1, jz1, dz1, sz2, pz2, kz2, cz2, qz2, jz2, dz2⟩] v w), .is (.bool b)] rfl rfl (by decide) (by simp only [Steady]; exact ⟨fun _ _ _ h hb => h.bel hb, trivial⟩) ?_
  simp only [List.take_succ_cons, List.take_zero, List.drop_succ_cons, List.drop_zero]
  refine fV (by rfl) (by intro w1 hw1 hk1; go_simp) ?_
  simp only [Act.put, sA, sB, sC]
  refine fV (by rfl) (fun w1 hw1 _ => load_at rfl rfl (hw1.heap HXp0.out) rfl Tryz.underlying26 rfl (by kernel_rfl)) ?_
  simp only [Act.put, sA, sB, sC]
  refine fV (by rfl) (by intro w1 hw1 hk1; go_simp) ?_
  simp only [Act.put, sA, sB, sC]
  refine fV (by rfl) (fun w1 hw1 _ => load_at rfl rfl (hw1.heap HXp0.out) rfl Tryz.underlying26 rfl (by kernel_rfl)) ?_
  simp only [Act.put, sA, sB, sC]
  refine fV (by rfl) (by intro w1 hw1 hk1; go_simp) ?_
  simp only [Act.put, sA, sB, sC]
  refine fV (by rfl) (by intro w1 hw1 hk1; go_simp) ?_
  simp only [Act.put, sA, sB, sC]
  refine fV (by rfl) (fun w1 hw1 _ => load_at rfl rfl (hw1.heap HXp0.out) rfl Tryz.underlying26 rfl (by kernel_rfl)) ?_
  simp only [Act.put, sA, sB, sC]
  refine fV (by rfl) (by intro w1 hw1 hk1; go_simp) ?_
  simp only [Act.put, sA, sB, sC]
  refine fV (by rfl) (fun w1 hw1 _ => load_at rfl rfl (hw1.heap HXp0.out) rfl Tryz.underlying26 rfl (by kernel_rfl)) ?_
  simp only [Act.put, sA, sB, sC]
  refine fV (by rfl) (by intro w1 hw1 hk1; go_simp) ?_
  simp only [Act.put, sA, sB, sC]
  refine fV (by rfl) (by intro w1 hw1 hk1; go_simp) ?_
  simp only [Act.put, sA, sB, sC]
  refine fV (by rfl) (fun w1 hw1 _ => load_at rfl rfl (hw1.heap HXp0.out) rfl Tryz.underlying26 rfl (by kernel_rfl)) ?_
  simp only [Act.put, sA, sB, sC]
  refine fV (by rfl) (by intro w1 hw1 hk1; go_simp) ?_
  simp only [Act.put, sA, sB, sC]
  refine fV (by rfl) (fun w1 hw1 _ => load_at rfl rfl (hw1.heap HXp0.out) rfl Tryz.underlying26 rfl (by kernel_rfl)) ?_
  simp only [Act.put, sA, sB, sC]
  refine fV (by rfl) (by intro w1 hw1 hk1; go_simp) ?_
  simp only [Act.put, sA, sB, sC]
  refine flow_has (by intro w1 hw1 hk1; refine want (by rfl) (gives_new (c := .slice (some ⟨w1.heap.size, 0, none⟩) 3 3) (w' := w1.alloc (.cells #[.bool sx1, .slice px1 kx1 cx1, .slice qx1 jx1 dx1, .bool sx2, .slice px2 kx2 cx2, .slice qx2 jx2 dx2, .bool sy1, .slice py1 ky1 cy1, .slice qy1 jy1 dy1, .bool sy2, .slice py2 ky2 cy2, .slice qy2 jy2 dy2, .bool sz1, .slice pz1 kz1 cz1, .slice qz1 jz1 dz1, .bool sz2, .slice pz2 kz2 cz2, .slice qz2 jz2 dz2] 28)) (by go_simp) ((Bel.refl w1).alloc _) (RpSl.new [⟨sx1, px1, kx1, cx1, qx1, jx1, dx1, sx2, px2, kx2, cx2, qx2, jx2, dx2⟩, ⟨sy1, py1, ky1, cy1, qy1, jy1, dy1, sy2, py2, ky2, cy2, qy2, jy2, dy2⟩, ⟨sz1, pz1, kz1, cz1, qz1, jz1, dz1, sz2, pz2, kz2, cz2, qz2, jz2, dz2⟩] w1))) (fun v15 => ?_)
  simp only [Act.put, sA, sB, sC]
  refine fC (by rfl) (by intro w1 hw1 hk1; obtain ⟨g15, -⟩ := hk1; exact HC1_16.out _ _ g15) (by intro; go_simp) ?_
  simp only [Act.put, sA, sB, sC]
  intro W1 hW1 hk1
  obtain ⟨g15, -⟩ := hk1
  have hfb := HBW.out.trans hW1
  clear hW1 g15
  go_wp2
  go_ret
  exact ⟨_, rfl, hfb, rfl⟩
end Go.Proofs.YtafmfnpjhhaikaaGreatDoor

/-
  The plain laws of chapter 6.
-/
namespace Go.Proofs.YtafmfnpjhhaikaaGreatDoor

section
variable (xa ya xb yb xc yc m n : Rat)
variable (xp yp xq yq : Rat)
end
end Go.Proofs.YtafmfnpjhhaikaaGreatDoor

/-
  Numbers of chapter 9.
-/
namespace Go.Proofs.YtafmfnpjhhaikaaGreatDoor
theorem k1 : mkRat 65536 65536 = 1 := by decide +kernel
theorem k2 : mkRat 0 65536 = 0 := by decide +kernel
theorem k3 : mkRat 0 64 = 0 := by decide +kernel
theorem k4 : mkRat 96 64 = 3 / 2 := by decide +kernel
theorem k5 : mkRat (-32) 64 = -1 / 2 := by decide +kernel
theorem k6 : mkRat 3 2 = 3 / 2 := by decide +kernel
theorem k7 : mkRat (-1) 2 = -1 / 2 := by decide +kernel
theorem k8 : mkRat 1 3 = 1 / 3 := by decide +kernel
theorem k9 : ((0 : Int) : Rat) = 0 := by decide +kernel
theorem k10 : ((1 : Int) : Rat) = 1 := by decide +kernel
theorem k11 : mkRat 1 1 = 1 := by decide +kernel
end Go.Proofs.YtafmfnpjhhaikaaGreatDoor
