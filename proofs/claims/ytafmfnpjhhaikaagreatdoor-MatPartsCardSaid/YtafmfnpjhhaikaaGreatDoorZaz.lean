/-
  mat.Inv (printed by gen_mad.py).
-/
import Derived.Test.YtafmfnpjhhaikaaGreatDoorZay
namespace Go.Proofs.YtafmfnpjhhaikaaGreatDoor
open Go.RowKit Go.Shelf

set_option maxHeartbeats 4000000 in
set_option maxRecDepth 100000 in
theorem au_minv {w : World} {m : Value} {am bm cm dm em fm : Rat} {nm : Nat} (hm : MS nm w m am bm cm dm em fm) (hl : 400 * nm + 400 < LimK) (HD : am * dm - bm * cm ≠ 0) : Calls Tryz.prog 54 #[m] w (Makes w (Tup (fun v w' => MS (((((nm + (1 + (nm + nm + (nm + nm) + 1))) + (nm + (1 + (nm + nm + (nm + nm) + 1))) + 1)) + (((((nm + (1 + (nm + nm + (nm + nm) + 1))) + (nm + (1 + (nm + nm + (nm + nm) + 1))) + 1)) + nm) + ((((nm + (1 + (nm + nm + (nm + nm) + 1))) + (nm + (1 + (nm + nm + (nm + nm) + 1))) + 1)) + nm) + 1))) w' v (((dm * ((mkRat 1 1) / ((am) * (dm) - (bm) * (cm)))))) ((((-bm) * ((mkRat 1 1) / ((am) * (dm) - (bm) * (cm)))))) ((((-cm) * ((mkRat 1 1) / ((am) * (dm) - (bm) * (cm)))))) (((am * ((mkRat 1 1) / ((am) * (dm) - (bm) * (cm)))))) ((-(((((dm * ((mkRat 1 1) / ((am) * (dm) - (bm) * (cm)))))) * (em)) + (((((-cm) * ((mkRat 1 1) / ((am) * (dm) - (bm) * (cm)))))) * (fm))))) ((-((((((-bm) * ((mkRat 1 1) / ((am) * (dm) - (bm) * (cm)))))) * (em)) + ((((am * ((mkRat 1 1) / ((am) * (dm) - (bm) * (cm)))))) * (fm)))))) (.int .i64 0))) := by
  obtain ⟨R1, hR1⟩ : ∃ Z, mkRat 1 1 = Z := ⟨_, rfl⟩
  have HC1_0 : Hid (∀ X, Calls Tryz.prog 45 #[.int .i64 1, .int .i64 1] X (Makes X (fun v w => RN 1 w v R1))) := fun X => by subst hR1; exact au_rof (p := 1) (q := 1) (by decide) (by decide) (by decide) (by decide) X
  obtain ⟨R2, hR2⟩ : ∃ Z, (am) * (dm) - (bm) * (cm) = Z := ⟨_, rfl⟩
  have HC1_2 : Hid (∀ X u0, MS nm X u0 am bm cm dm em fm → Calls Tryz.prog 63 #[u0] X (Makes X (fun v w => RN (nm + nm + (nm + nm) + 1) w v R2))) := fun X u0 h0 => by subst hR2; exact au_mdet (nm := nm) h0 (by omega)
  obtain ⟨R3, hR3⟩ : ∃ Z, R1 / R2 = Z := ⟨_, rfl⟩
  have HC1_3 : Hid (∀ X u0 u1, RN 1 X u0 R1 → RN (nm + nm + (nm + nm) + 1) X u1 R2 → Calls Tryz.prog 87 #[u0, u1] X (Makes X (Tup (fun v w => RN (1 + (nm + nm + (nm + nm) + 1)) w v R3) (.int .i64 0)))) := fun X u0 u1 h0 h1 => by subst hR3; exact au_rdiv (i := 1) (j := nm + nm + (nm + nm) + 1) (h0.rs (by omega)) (h1.rs (by omega)) (by omega) (by subst hR2 hR1; exact HD)
  obtain ⟨R4, hR4⟩ : ∃ Z, -bm = Z := ⟨_, rfl⟩
  have HC4_4 : Hid (∀ X u0, RS nm X u0 bm → Calls Tryz.prog 50 #[u0] X (Makes X (fun v w => RN nm w v R4))) := fun X u0 h0 => by subst hR4; exact au_rneg (i := nm) h0 (by omega)
  obtain ⟨R5, hR5⟩ : ∃ Z, dm * R3 = Z := ⟨_, rfl⟩
  obtain ⟨R6, hR6⟩ : ∃ Z, R4 * R3 = Z := ⟨_, rfl⟩
  have HC4_7 : Hid (∀ X u0 u1, PS nm X u0 dm R4 → RN (1 + (nm + nm + (nm + nm) + 1)) X u1 R3 → Calls Tryz.prog 25 #[u0, u1] X (Makes X (fun v w => PN (nm + (1 + (nm + nm + (nm + nm) + 1))) w v R5 R6))) := fun X u0 u1 h0 h1 => by subst hR5 hR6; exact au_scale (i := nm) (j := 1 + (nm + nm + (nm + nm) + 1)) h0 (h1.rs (by omega)) (by omega)
  obtain ⟨R7, hR7⟩ : ∃ Z, -cm = Z := ⟨_, rfl⟩
  have HC4_10 : Hid (∀ X u0, RS nm X u0 cm → Calls Tryz.prog 50 #[u0] X (Makes X (fun v w => RN nm w v R7))) := fun X u0 h0 => by subst hR7; exact au_rneg (i := nm) h0 (by omega)
  obtain ⟨R8, hR8⟩ : ∃ Z, R7 * R3 = Z := ⟨_, rfl⟩
  obtain ⟨R9, hR9⟩ : ∃ Z, am * R3 = Z := ⟨_, rfl⟩
  have HC4_15 : Hid (∀ X u0 u1, PS nm X u0 R7 am → RN (1 + (nm + nm + (nm + nm) + 1)) X u1 R3 → Calls Tryz.prog 25 #[u0, u1] X (Makes X (fun v w => PN (nm + (1 + (nm + nm + (nm + nm) + 1))) w v R8 R9))) := fun X u0 u1 h0 h1 => by subst hR8 hR9; exact au_scale (i := nm) (j := 1 + (nm + nm + (nm + nm) + 1)) h0 (h1.rs (by omega)) (by omega)
  obtain ⟨R10, hR10⟩ : ∃ Z, R5 = Z := ⟨_, rfl⟩
  obtain ⟨R11, hR11⟩ : ∃ Z, R6 = Z := ⟨_, rfl⟩
  obtain ⟨R12, hR12⟩ : ∃ Z, R8 = Z := ⟨_, rfl⟩
  obtain ⟨R13, hR13⟩ : ∃ Z, R9 = Z := ⟨_, rfl⟩
  obtain ⟨R14, hR14⟩ : ∃ Z, 0 = Z := ⟨_, rfl⟩
  obtain ⟨R15, hR15⟩ : ∃ Z, 0 = Z := ⟨_, rfl⟩
  have HC4_17 : Hid (∀ X u0 u1 u2, PN (nm + (1 + (nm + nm + (nm + nm) + 1))) X u0 R5 R6 → PN (nm + (1 + (nm + nm + (nm + nm) + 1))) X u1 R8 R9 → PS 1 X u2 0 0 → Calls Tryz.prog 100 #[u0, u1, u2] X (Makes X (fun v w => MS (((nm + (1 + (nm + nm + (nm + nm) + 1))) + (nm + (1 + (nm + nm + (nm + nm) + 1))) + 1)) w v R10 R11 R12 R13 R14 R15))) := fun X u0 u1 u2 h0 h1 h2 => by subst hR10 hR11 hR12 hR13 hR14 hR15; exact au_mof (nx := nm + (1 + (nm + nm + (nm + nm) + 1))) (ny := nm + (1 + (nm + nm + (nm + nm) + 1))) (nz := 1) (h0.ps (by omega)) (h1.ps (by omega)) h2 (by omega)
  obtain ⟨R16, hR16⟩ : ∃ Z, em = Z := ⟨_, rfl⟩
  obtain ⟨R17, hR17⟩ : ∃ Z, fm = Z := ⟨_, rfl⟩
  have HC5_2 : Hid (∀ X u0, MS nm X u0 am bm cm dm em fm → Calls Tryz.prog 102 #[u0] X (Makes X (fun v w => PS nm w v R16 R17))) := fun X u0 h0 => by subst hR16 hR17; exact au_mshift (nm := nm) h0 (by omega)
  obtain ⟨R18, hR18⟩ : ∃ Z, ((R10) * R16) + ((R12) * R17) = Z := ⟨_, rfl⟩
  obtain ⟨R19, hR19⟩ : ∃ Z, ((R11) * R16) + ((R13) * R17) = Z := ⟨_, rfl⟩
  have HC5_3 : Hid (∀ X u0 u1, MS (((nm + (1 + (nm + nm + (nm + nm) + 1))) + (nm + (1 + (nm + nm + (nm + nm) + 1))) + 1)) X u0 R10 R11 R12 R13 R14 R15 → PS nm X u1 R16 R17 → Calls Tryz.prog 101 #[u0, u1] X (Makes X (fun v w => PN (((((nm + (1 + (nm + nm + (nm + nm) + 1))) + (nm + (1 + (nm + nm + (nm + nm) + 1))) + 1)) + nm) + ((((nm + (1 + (nm + nm + (nm + nm) + 1))) + (nm + (1 + (nm + nm + (nm + nm) + 1))) + 1)) + nm) + 1) w v R18 R19))) := fun X u0 u1 h0 h1 => by subst hR18 hR19; exact au_mline (nm := ((nm + (1 + (nm + nm + (nm + nm) + 1))) + (nm + (1 + (nm + nm + (nm + nm) + 1))) + 1)) (np := nm) h0 h1 (by omega)
  obtain ⟨R20, hR20⟩ : ∃ Z, -R18 = Z := ⟨_, rfl⟩
  have HC6_2 : Hid (∀ X u0, RN (((((nm + (1 + (nm + nm + (nm + nm) + 1))) + (nm + (1 + (nm + nm + (nm + nm) + 1))) + 1)) + nm) + ((((nm + (1 + (nm + nm + (nm + nm) + 1))) + (nm + (1 + (nm + nm + (nm + nm) + 1))) + 1)) + nm) + 1) X u0 R18 → Calls Tryz.prog 50 #[u0] X (Makes X (fun v w => RN (((((nm + (1 + (nm + nm + (nm + nm) + 1))) + (nm + (1 + (nm + nm + (nm + nm) + 1))) + 1)) + nm) + ((((nm + (1 + (nm + nm + (nm + nm) + 1))) + (nm + (1 + (nm + nm + (nm + nm) + 1))) + 1)) + nm) + 1) w v R20))) := fun X u0 h0 => by subst hR20; exact au_rneg (i := ((((nm + (1 + (nm + nm + (nm + nm) + 1))) + (nm + (1 + (nm + nm + (nm + nm) + 1))) + 1)) + nm) + ((((nm + (1 + (nm + nm + (nm + nm) + 1))) + (nm + (1 + (nm + nm + (nm + nm) + 1))) + 1)) + nm) + 1) (h0.rs (by omega)) (by omega)
  obtain ⟨R21, hR21⟩ : ∃ Z, -R19 = Z := ⟨_, rfl⟩
  have HC6_5 : Hid (∀ X u0, RN (((((nm + (1 + (nm + nm + (nm + nm) + 1))) + (nm + (1 + (nm + nm + (nm + nm) + 1))) + 1)) + nm) + ((((nm + (1 + (nm + nm + (nm + nm) + 1))) + (nm + (1 + (nm + nm + (nm + nm) + 1))) + 1)) + nm) + 1) X u0 R19 → Calls Tryz.prog 50 #[u0] X (Makes X (fun v w => RN (((((nm + (1 + (nm + nm + (nm + nm) + 1))) + (nm + (1 + (nm + nm + (nm + nm) + 1))) + 1)) + nm) + ((((nm + (1 + (nm + nm + (nm + nm) + 1))) + (nm + (1 + (nm + nm + (nm + nm) + 1))) + 1)) + nm) + 1) w v R21))) := fun X u0 h0 => by subst hR21; exact au_rneg (i := ((((nm + (1 + (nm + nm + (nm + nm) + 1))) + (nm + (1 + (nm + nm + (nm + nm) + 1))) + 1)) + nm) + ((((nm + (1 + (nm + nm + (nm + nm) + 1))) + (nm + (1 + (nm + nm + (nm + nm) + 1))) + 1)) + nm) + 1) (h0.rs (by omega)) (by omega)
  suffices HS : Calls Tryz.prog 54 #[m] w (Makes w (Tup (fun v w' => MS (((((nm + (1 + (nm + nm + (nm + nm) + 1))) + (nm + (1 + (nm + nm + (nm + nm) + 1))) + 1)) + (((((nm + (1 + (nm + nm + (nm + nm) + 1))) + (nm + (1 + (nm + nm + (nm + nm) + 1))) + 1)) + nm) + ((((nm + (1 + (nm + nm + (nm + nm) + 1))) + (nm + (1 + (nm + nm + (nm + nm) + 1))) + 1)) + nm) + 1))) w' v R10 R11 R12 R13 R20 R21) (.int .i64 0))) by
    subst hR21 hR20 hR19 hR18 hR17 hR16 hR13 hR12 hR11 hR10 hR9 hR8 hR7 hR6 hR5 hR4 hR3 hR2 hR1; exact HS
  clear hR1 hR2 hR3 hR4 hR5 hR6 hR7 hR8 hR9 hR10 hR11 hR12 hR13 hR14 hR15 hR16 hR17 hR18 hR19 hR20 hR21
  have HLB := Lib.hid hl
  clear hl HD
  obtain ⟨sm1, pm1, km1, cm1, qm1, jm1, dm1, sm2, pm2, km2, cm2, qm2, jm2, dm2, sm3, pm3, km3, cm3, qm3, jm3, dm3, sm4, pm4, km4, cm4, qm4, jm4, dm4, sm5, pm5, km5, cm5, qm5, jm5, dm5, sm6, pm6, km6, cm6, qm6, jm6, dm6, rfl, hm1, hm2, hm3, hm4, hm5, hm6⟩ := hm.parts
  have HPm := Lib.hid hm
  have HPm1 := Lib.hid hm1
  have HPm2 := Lib.hid hm2
  have HPm3 := Lib.hid hm3
  have HPm4 := Lib.hid hm4
  have HPm5 := Lib.hid hm5
  have HPm6 := Lib.hid hm6
  clear hm hm1 hm2 hm3 hm4 hm5 hm6
  go_enter Tryz.func54, Tryz.ntmps54
  go_upto_region 1 with fail
  obtain ⟨hXp0, hXR, hbw⟩ := boxes2 w (.cells #[.bool sm1, .slice pm1 km1 cm1, .slice qm1 jm1 dm1, .bool sm2, .slice pm2 km2 cm2, .slice qm2 jm2 dm2, .bool sm3, .slice pm3 km3 cm3, .slice qm3 jm3 dm3, .bool sm4, .slice pm4 km4 cm4, .slice qm4 jm4 dm4, .bool sm5, .slice pm5 km5 cm5, .slice qm5 jm5 dm5, .bool sm6, .slice pm6 km6 cm6, .slice qm6 jm6 dm6] 72) (.cells #[.bool false, .slice none 0 0, .slice none 0 0, .bool false, .slice none 0 0, .slice none 0 0, .bool false, .slice none 0 0, .slice none 0 0, .bool false, .slice none 0 0, .slice none 0 0, .bool false, .slice none 0 0, .slice none 0 0, .bool false, .slice none 0 0, .slice none 0 0] 72)
  obtain ⟨W, hW⟩ : ∃ W, (w.alloc (.cells #[.bool sm1, .slice pm1 km1 cm1, .slice qm1 jm1 dm1, .bool sm2, .slice pm2 km2 cm2, .slice qm2 jm2 dm2, .bool sm3, .slice pm3 km3 cm3, .slice qm3 jm3 dm3, .bool sm4, .slice pm4 km4 cm4, .slice qm4 jm4 dm4, .bool sm5, .slice pm5 km5 cm5, .slice qm5 jm5 dm5, .bool sm6, .slice pm6 km6 cm6, .slice qm6 jm6 dm6] 72)).alloc (.cells #[.bool false, .slice none 0 0, .slice none 0 0, .bool false, .slice none 0 0, .slice none 0 0, .bool false, .slice none 0 0, .slice none 0 0, .bool false, .slice none 0 0, .slice none 0 0, .bool false, .slice none 0 0, .slice none 0 0, .bool false, .slice none 0 0, .slice none 0 0] 72) = W := ⟨_, rfl⟩
  rw [hW] at hXp0 hXR hbw ⊢
  obtain ⟨Xp0, eXp0⟩ : ∃ X, w.heap.size = X := ⟨_, rfl⟩
  obtain ⟨XR, eXR⟩ : ∃ X, Xp0 + 1 = X := ⟨_, rfl⟩
  rw [eXp0, eXR]
  rw [eXp0] at hXp0 hXR
  rw [eXR] at hXR
  have HXp0 := Lib.hid hXp0
  have HXR := Lib.hid hXR
  have HBW := Lib.hid hbw
  have HGEXp0 : Hid (w.heap.size ≤ Xp0) := by unfold Hid; omega
  have HGEXR : Hid (w.heap.size ≤ XR) := by unfold Hid; omega
  have HLT : Hid (Xp0 < XR) := by unfold Hid; omega
  clear hW hbw hXp0 hXR eXp0 eXR
  refine region_flowT 8 [6] [7] [[], [], [1], [0, 2], [3], [4], [4], []] [.has (fun v w => RN 1 w v R1), .is (.agg #[.bool sm1, .slice pm1 km1 cm1, .slice qm1 jm1 dm1, .bool sm2, .slice pm2 km2 cm2, .slice qm2 jm2 dm2, .bool sm3, .slice pm3 km3 cm3, .slice qm3 jm3 dm3, .bool sm4, .slice pm4 km4 cm4, .slice qm4 jm4 dm4, .bool sm5, .slice pm5 km5 cm5, .slice qm5 jm5 dm5, .bool sm6, .slice pm6 km6 cm6, .slice qm6 jm6 dm6]), .has (fun v w => RN (nm + nm + (nm + nm) + 1) w v R2), .has (Tup (fun v w => RN (1 + (nm + nm + (nm + nm) + 1)) w v R3) (.int .i64 0)), .has (Tup (fun v w => RN (1 + (nm + nm + (nm + nm) + 1)) w v R3) (.int .i64 0)), .has (fun v w => RN (1 + (nm + nm + (nm + nm) + 1)) w v R3), .is (.int .i64 0), .has (fun v y => NewBox W 26 #[.bool false, .slice none 0 0, .slice none 0 0] v y)] (by kernel_rfl) (by kernel_rfl) rfl (by intro j hj; simp only [List.mem_cons, List.not_mem_nil, or_false] at hj; rcases hj with rfl <;> exact ⟨_, rfl⟩) (by intro j hj; simp only [List.mem_cons, List.not_mem_nil, or_false] at hj; rcases hj with rfl <;> exact ⟨_, _, rfl, (fun e w => by go_simp; exact ⟨_, rfl, Nat.le_refl _⟩), rfl, NewBox.lies⟩) (by simp only [Steady]; exact ⟨fun _ _ _ h hb => h.bel hb, fun _ _ _ h hb => h.bel hb, fun _ _ _ h hb => h.bel (fun _ _ _ h hb => h.bel hb) hb, fun _ _ _ h hb => h.bel (fun _ _ _ h hb => h.bel hb) hb, fun _ _ _ h hb => h.bel hb, fun _ _ _ h hb => h.bel hb, trivial⟩) ?_
  simp only [List.take_succ_cons, List.take_zero, List.drop_succ_cons, List.drop_zero]
  refine hH (by rfl) (by intro w1 hw1 hk1; exact HC1_0.out _) (by intro; go_simp) (fun v0 => ?_)
  simp only [Act.put, sA, sB, sC]
  refine hV (by rfl) (by rfl) (fun w1 hw1 _ => load_at rfl rfl (hw1.heap HXp0.out) rfl Tryz.underlying72 rfl (by kernel_rfl)) ?_
  simp only [Act.put, sA, sB, sC]
  refine hH (by rfl) (by intro w1 hw1 hk1; exact HC1_2.out _ _ (HPm.out.bel (HBW.out.trans hw1))) (by intro; go_simp) (fun v2 => ?_)
  simp only [Act.put, sA, sB, sC]
  refine hH (by rfl) (by intro w1 hw1 hk1; obtain ⟨g2, g0, -⟩ := hk1; exact HC1_3.out _ _ _ g0 g2) (by intro; go_simp) (fun v3 => ?_)
  simp only [Act.put, sA, sB, sC]
  refine flowT_has (by intro w1 hw1 hk1; obtain ⟨g3, -, -, -⟩ := hk1; refine want (by rfl) (gives_of (c := v3) (by go_simp) ?_); exact g3) (fun v4 => ?_)
  simp only [Act.put, sA, sB, sC]
  refine flowT_has (by intro w1 hw1 hk1; obtain ⟨g4, -, -, -, -⟩ := hk1; obtain ⟨u, e, h⟩ := g4; subst e; refine want (by rfl) (gives_of (c := u) (by go_simp) ?_); exact h) (fun v5 => ?_)
  simp only [Act.put, sA, sB, sC]
  refine hR (by rfl) (by rfl) (by intro w2 hw2 hk1 w1 hw1; obtain ⟨-, g4, -, -, -, -⟩ := hk1; obtain ⟨u, e, h⟩ := g4; subst e; go_simp) ?_
  simp only [Act.put, sA, sB, sC]
  refine flowT_has (by intro w1 hw1 hk1; refine want (by rfl) (gives_new (c := .pointer (some ⟨w1.heap.size, 0, none⟩)) (w' := w1.alloc (.cells #[.bool false, .slice none 0 0, .slice none 0 0] 26)) (by go_simp) ((Bel.refl w1).alloc _) ?_); exact NewBox.new hw1) (fun v7 => ?_)
  simp only [Act.put, sA, sB, sC]
  intro W1 hW1 hk1 hap
  obtain ⟨g7, g5, g4, g3, g2, g0, -⟩ := hk1
  have hnn7 := g7
  clear g7
  obtain ⟨X1_7, rfl, hgeX1_7, hxX1_7⟩ := hnn7
  obtain ⟨sr5_1x1, pr5_1x1, kr5_1x1, cr5_1x1, qr5_1x1, jr5_1x1, dr5_1x1, rfl⟩ := g5.parts
  have ht0 := stoW (w := W) (t := 26) [.bool sr5_1x1, .slice pr5_1x1 kr5_1x1 cr5_1x1, .slice qr5_1x1 jr5_1x1 dr5_1x1] (hxX1_7) (hW1) rfl rfl hgeX1_7
  refine tail_store _ rfl (by rfl) (run_store rfl rfl rfl (hxX1_7) rfl (by kernel_rfl) rfl) ht0.bel ?_
  generalize hW2 : World.setCells _ _ _ _ = W2
  refine tail_line (by kernel_rfl) ?_
  go_upto_region 2 with fail
  have hb2 := ht0.bel
  rw [hW2] at hb2
  have Hg5_1 := g5.lim (ht0.lim)
  rw [hW2] at Hg5_1
  replace Hg5_1 := Lib.hid Hg5_1
  have HX1_7 := ht0.heap
  rw [hW2] at HX1_7
  replace HX1_7 := Lib.hid HX1_7
  have HOX1_7 : Hid (XR < X1_7) := Nat.lt_of_lt_of_le (heap_lt (HXR.out)) hgeX1_7
  have hgwX1_7 : w.heap.size ≤ X1_7 := Nat.le_trans HBW.out.size hgeX1_7
  replace HBW := Lib.hid (HBW.out.trans hb2)
  have HBW_ := Lib.hid hb2
  clear hW1 g5 hxX1_7 g0 g2 g3 g4 hgeX1_7 hap hb2 hW2 ht0
  refine line_region 2 [[], [0]] [.is (.int .i64 0), .is (.bool false)] rfl rfl (by decide) (by simp only [Steady]) ?_
  simp only [List.take_succ_cons, List.take_zero, List.drop_succ_cons, List.drop_zero]
  refine fV (by rfl) (by intro w1 hw1 hk1; go_simp) ?_
  simp only [Act.put, sA, sB, sC]
  refine flow_is (by intro w1 hw1 hk1; refine want (by rfl) (gives_val ?_); go_simp; (first | done | rfl)) ?_
  simp only [Act.put, sA, sB, sC]
  intro W3 hW3 hk1
  have hb2 := hW3
  replace HBW := Lib.hid (HBW.out.trans hb2)
  replace HBW_ := Lib.hid (HBW_.out.trans hb2)
  have HBW2_ := Lib.hid hb2
  clear hW3 hb2
  go_upto_region 4 with fail
  refine region_flowN 19 [] [18] [[], [0], [], [2], [3], [1, 4], [], [5, 6], [], [8], [9], [], [11], [10, 12], [], [13, 14], [], [7, 15, 16], []] [.is (.pointer (some ⟨Xp0, 9, none⟩)), .is (.agg #[.bool sm4, .slice pm4 km4 cm4, .slice qm4 jm4 dm4]), .is (.pointer (some ⟨Xp0, 3, none⟩)), .is (.agg #[.bool sm2, .slice pm2 km2 cm2, .slice qm2 jm2 dm2]), .has (fun v w => RN nm w v R4), .has (fun v w => PS nm w v dm R4), .is (.agg #[.bool sr5_1x1, .slice pr5_1x1 kr5_1x1 cr5_1x1, .slice qr5_1x1 jr5_1x1 dr5_1x1]), .has (fun v w => PN (nm + (1 + (nm + nm + (nm + nm) + 1))) w v R5 R6), .is (.pointer (some ⟨Xp0, 6, none⟩)), .is (.agg #[.bool sm3, .slice pm3 km3 cm3, .slice qm3 jm3 dm3]), .has (fun v w => RN nm w v R7), .is (.pointer (some ⟨Xp0, 0, none⟩)), .is (.agg #[.bool sm1, .slice pm1 km1 cm1, .slice qm1 jm1 dm1]), .has (fun v w => PS nm w v R7 am), .is (.agg #[.bool sr5_1x1, .slice pr5_1x1 kr5_1x1 cr5_1x1, .slice qr5_1x1 jr5_1x1 dr5_1x1]), .has (fun v w => PN (nm + (1 + (nm + nm + (nm + nm) + 1))) w v R8 R9), .is (.agg #[.bool false, .slice none 0 0, .slice none 0 0, .bool false, .slice none 0 0, .slice none 0 0]), .has (fun v w => MS (((nm + (1 + (nm + nm + (nm + nm) + 1))) + (nm + (1 + (nm + nm + (nm + nm) + 1))) + 1)) w v R10 R11 R12 R13 R14 R15), .has (fun v y => NewBox W3 72 #[.bool false, .slice none 0 0, .slice none 0 0, .bool false, .slice none 0 0, .slice none 0 0, .bool false, .slice none 0 0, .slice none 0 0, .bool false, .slice none 0 0, .slice none 0 0, .bool false, .slice none 0 0, .slice none 0 0, .bool false, .slice none 0 0, .slice none 0 0] v y)] (by kernel_rfl) (by kernel_rfl) rfl (fun j hj => by cases hj) (by intro j hj; simp only [List.mem_cons, List.not_mem_nil, or_false] at hj; rcases hj with rfl <;> exact ⟨_, _, rfl, (fun e w => by go_simp; exact ⟨_, rfl, Nat.le_refl _⟩), rfl, NewBox.lies⟩) (by simp only [Steady]; exact ⟨fun _ _ _ h hb => h.bel hb, fun _ _ _ h hb => h.bel hb, fun _ _ _ h hb => h.bel hb, fun _ _ _ h hb => h.bel hb, fun _ _ _ h hb => h.bel hb, fun _ _ _ h hb => h.bel hb, fun _ _ _ h hb => h.bel hb, fun _ _ _ h hb => h.bel hb, trivial⟩) ?_
  simp only [List.take_succ_cons, List.take_zero, List.drop_succ_cons, List.drop_zero]
  refine gV (by rfl) (by intro w1 hw1 hk1; go_simp) ?_
  simp only [Act.put, sA, sB, sC]
  refine gV (by rfl) (fun w1 hw1 _ => load_at rfl rfl (hw1.heap (HBW_.out.heap HXp0.out)) rfl Tryz.underlying26 rfl (by kernel_rfl)) ?_
  simp only [Act.put, sA, sB, sC]
  refine gV (by rfl) (by intro w1 hw1 hk1; go_simp) ?_
  simp only [Act.put, sA, sB, sC]
  refine gV (by rfl) (fun w1 hw1 _ => load_at rfl rfl (hw1.heap (HBW_.out.heap HXp0.out)) rfl Tryz.underlying26 rfl (by kernel_rfl)) ?_
  simp only [Act.put, sA, sB, sC]
  refine gH (by rfl) (by intro w1 hw1 hk1; exact HC4_4.out _ _ (HPm2.out.bel (HBW.out.trans hw1))) (by intro; go_simp) (fun v4 => ?_)
  simp only [Act.put, sA, sB, sC]
  refine flowF_has (by intro w1 hw1 hk1; obtain ⟨g4, -⟩ := hk1; obtain ⟨sb5_11, pb5_11, kb5_11, cb5_11, qb5_11, jb5_11, db5_11, eb5_1⟩ := g4.parts; subst eb5_1; refine want (by rfl) (gives_of (c := .agg #[.bool sm4, .slice pm4 km4 cm4, .slice qm4 jm4 dm4, .bool sb5_11, .slice pb5_11 kb5_11 cb5_11, .slice qb5_11 jb5_11 db5_11]) (by go_simp) ?_); exact ps_mk (HPm4.out.bel (HBW.out.trans hw1)) (g4.rs (by have := HLB.out; omega))) (fun v5 => ?_)
  simp only [Act.put, sA, sB, sC]
  refine gV (by rfl) (fun w1 hw1 _ => load_at rfl rfl (hw1.heap (HBW2_.out.heap HX1_7.out)) rfl Tryz.underlying26 rfl (by kernel_rfl)) ?_
  simp only [Act.put, sA, sB, sC]
  refine gH (by rfl) (by intro w1 hw1 hk1; obtain ⟨g5, -, -⟩ := hk1; exact HC4_7.out _ _ _ g5 (Hg5_1.out.bel (HBW2_.out.trans hw1))) (by intro; go_simp) (fun v7 => ?_)
  simp only [Act.put, sA, sB, sC]
  refine gV (by rfl) (by intro w1 hw1 hk1; go_simp) ?_
  simp only [Act.put, sA, sB, sC]
  refine gV (by rfl) (fun w1 hw1 _ => load_at rfl rfl (hw1.heap (HBW_.out.heap HXp0.out)) rfl Tryz.underlying26 rfl (by kernel_rfl)) ?_
  simp only [Act.put, sA, sB, sC]
  refine gH (by rfl) (by intro w1 hw1 hk1; exact HC4_10.out _ _ (HPm3.out.bel (HBW.out.trans hw1))) (by intro; go_simp) (fun v10 => ?_)
  simp only [Act.put, sA, sB, sC]
  refine gV (by rfl) (by intro w1 hw1 hk1; go_simp) ?_
  simp only [Act.put, sA, sB, sC]
  refine gV (by rfl) (fun w1 hw1 _ => load_at rfl rfl (hw1.heap (HBW_.out.heap HXp0.out)) rfl Tryz.underlying26 rfl (by kernel_rfl)) ?_
  simp only [Act.put, sA, sB, sC]
  refine flowF_has (by intro w1 hw1 hk1; obtain ⟨g10, -, -, -, -⟩ := hk1; obtain ⟨sb13_01, pb13_01, kb13_01, cb13_01, qb13_01, jb13_01, db13_01, eb13_0⟩ := g10.parts; subst eb13_0; refine want (by rfl) (gives_of (c := .agg #[.bool sb13_01, .slice pb13_01 kb13_01 cb13_01, .slice qb13_01 jb13_01 db13_01, .bool sm1, .slice pm1 km1 cm1, .slice qm1 jm1 dm1]) (by go_simp) ?_); exact ps_mk (g10.rs (by have := HLB.out; omega)) (HPm1.out.bel (HBW.out.trans hw1))) (fun v13 => ?_)
  simp only [Act.put, sA, sB, sC]
  refine gV (by rfl) (fun w1 hw1 _ => load_at rfl rfl (hw1.heap (HBW2_.out.heap HX1_7.out)) rfl Tryz.underlying26 rfl (by kernel_rfl)) ?_
  simp only [Act.put, sA, sB, sC]
  refine gH (by rfl) (by intro w1 hw1 hk1; obtain ⟨g13, -, -, -, -, -⟩ := hk1; exact HC4_15.out _ _ _ g13 (Hg5_1.out.bel (HBW2_.out.trans hw1))) (by intro; go_simp) (fun v15 => ?_)
  simp only [Act.put, sA, sB, sC]
  refine gV (by rfl) (by intro w1 hw1 hk1; go_simp) ?_
  simp only [Act.put, sA, sB, sC]
  refine gH (by rfl) (by intro w1 hw1 hk1; obtain ⟨g15, -, -, g7, -, -, -⟩ := hk1; exact HC4_17.out _ _ _ _ g7 g15 (ps_zero w1)) (by intro; go_simp) (fun v17 => ?_)
  simp only [Act.put, sA, sB, sC]
  refine flowF_has (by intro w1 hw1 hk1; refine want (by rfl) (gives_new (c := .pointer (some ⟨w1.heap.size, 0, none⟩)) (w' := w1.alloc (.cells #[.bool false, .slice none 0 0, .slice none 0 0, .bool false, .slice none 0 0, .slice none 0 0, .bool false, .slice none 0 0, .slice none 0 0, .bool false, .slice none 0 0, .slice none 0 0, .bool false, .slice none 0 0, .slice none 0 0, .bool false, .slice none 0 0, .slice none 0 0] 72)) (by go_simp) ((Bel.refl w1).alloc _) ?_); exact NewBox.new hw1) (fun v18 => ?_)
  simp only [Act.put, sA, sB, sC]
  intro W4 hW4 hk1 hap
  obtain ⟨g18, g17, g15, g13, g10, g7, g5, g4, -⟩ := hk1
  have hnn18 := g18
  clear g18
  obtain ⟨X4_18, rfl, hgeX4_18, hxX4_18⟩ := hnn18
  obtain ⟨sr17_4x1, pr17_4x1, kr17_4x1, cr17_4x1, qr17_4x1, jr17_4x1, dr17_4x1, sr17_4x2, pr17_4x2, kr17_4x2, cr17_4x2, qr17_4x2, jr17_4x2, dr17_4x2, sr17_4x3, pr17_4x3, kr17_4x3, cr17_4x3, qr17_4x3, jr17_4x3, dr17_4x3, sr17_4x4, pr17_4x4, kr17_4x4, cr17_4x4, qr17_4x4, jr17_4x4, dr17_4x4, sr17_4x5, pr17_4x5, kr17_4x5, cr17_4x5, qr17_4x5, jr17_4x5, dr17_4x5, sr17_4x6, pr17_4x6, kr17_4x6, cr17_4x6, qr17_4x6, jr17_4x6, dr17_4x6, rfl, g17_1, g17_2, g17_3, g17_4, g17_5, g17_6⟩ := g17.parts
  have ht0 := stoW (w := W3) (t := 72) [.bool sr17_4x1, .slice pr17_4x1 kr17_4x1 cr17_4x1, .slice qr17_4x1 jr17_4x1 dr17_4x1, .bool sr17_4x2, .slice pr17_4x2 kr17_4x2 cr17_4x2, .slice qr17_4x2 jr17_4x2 dr17_4x2, .bool sr17_4x3, .slice pr17_4x3 kr17_4x3 cr17_4x3, .slice qr17_4x3 jr17_4x3 dr17_4x3, .bool sr17_4x4, .slice pr17_4x4 kr17_4x4 cr17_4x4, .slice qr17_4x4 jr17_4x4 dr17_4x4, .bool sr17_4x5, .slice pr17_4x5 kr17_4x5 cr17_4x5, .slice qr17_4x5 jr17_4x5 dr17_4x5, .bool sr17_4x6, .slice pr17_4x6 kr17_4x6 cr17_4x6, .slice qr17_4x6 jr17_4x6 dr17_4x6] (hxX4_18) (hW4) rfl rfl hgeX4_18
  refine lt_store rfl rfl rfl rfl (hxX4_18) rfl (by kernel_rfl) rfl rfl ?_
  generalize hW5 : World.setCells _ _ _ _ = W5
  go_upto_region 5 with fail
  have hb2 := ht0.bel
  rw [hW5] at hb2
  have Hg17_4 := g17.lim (ht0.lim)
  rw [hW5] at Hg17_4
  replace Hg17_4 := Lib.hid Hg17_4
  have Hg17_4_1 := g17_1.lim (ht0.lim)
  rw [hW5] at Hg17_4_1
  replace Hg17_4_1 := Lib.hid Hg17_4_1
  have Hg17_4_2 := g17_2.lim (ht0.lim)
  rw [hW5] at Hg17_4_2
  replace Hg17_4_2 := Lib.hid Hg17_4_2
  have Hg17_4_3 := g17_3.lim (ht0.lim)
  rw [hW5] at Hg17_4_3
  replace Hg17_4_3 := Lib.hid Hg17_4_3
  have Hg17_4_4 := g17_4.lim (ht0.lim)
  rw [hW5] at Hg17_4_4
  replace Hg17_4_4 := Lib.hid Hg17_4_4
  have Hg17_4_5 := g17_5.lim (ht0.lim)
  rw [hW5] at Hg17_4_5
  replace Hg17_4_5 := Lib.hid Hg17_4_5
  have Hg17_4_6 := g17_6.lim (ht0.lim)
  rw [hW5] at Hg17_4_6
  replace Hg17_4_6 := Lib.hid Hg17_4_6
  have HX4_18 := ht0.heap
  rw [hW5] at HX4_18
  replace HX4_18 := Lib.hid HX4_18
  have HOX4_18 : Hid (X1_7 < X4_18) := Nat.lt_of_lt_of_le (heap_lt ((HBW2_.out.heap HX1_7.out))) hgeX4_18
  have hgwX4_18 : w.heap.size ≤ X4_18 := Nat.le_trans HBW.out.size hgeX4_18
  replace HBW := Lib.hid (HBW.out.trans hb2)
  replace HBW_ := Lib.hid (HBW_.out.trans hb2)
  replace HBW2_ := Lib.hid (HBW2_.out.trans hb2)
  have HBW3_ := Lib.hid hb2
  clear hW4 g17 hxX4_18 g4 g5 g7 g10 g13 g15 g17_1 g17_2 g17_3 g17_4 g17_5 g17_6 hgeX4_18 hap hb2 hW5 ht0
  refine region_flowN 5 [] [4] [[], [], [1], [0, 2], []] [.is (.agg #[.bool sr17_4x1, .slice pr17_4x1 kr17_4x1 cr17_4x1, .slice qr17_4x1 jr17_4x1 dr17_4x1, .bool sr17_4x2, .slice pr17_4x2 kr17_4x2 cr17_4x2, .slice qr17_4x2 jr17_4x2 dr17_4x2, .bool sr17_4x3, .slice pr17_4x3 kr17_4x3 cr17_4x3, .slice qr17_4x3 jr17_4x3 dr17_4x3, .bool sr17_4x4, .slice pr17_4x4 kr17_4x4 cr17_4x4, .slice qr17_4x4 jr17_4x4 dr17_4x4, .bool sr17_4x5, .slice pr17_4x5 kr17_4x5 cr17_4x5, .slice qr17_4x5 jr17_4x5 dr17_4x5, .bool sr17_4x6, .slice pr17_4x6 kr17_4x6 cr17_4x6, .slice qr17_4x6 jr17_4x6 dr17_4x6]), .is (.agg #[.bool sm1, .slice pm1 km1 cm1, .slice qm1 jm1 dm1, .bool sm2, .slice pm2 km2 cm2, .slice qm2 jm2 dm2, .bool sm3, .slice pm3 km3 cm3, .slice qm3 jm3 dm3, .bool sm4, .slice pm4 km4 cm4, .slice qm4 jm4 dm4, .bool sm5, .slice pm5 km5 cm5, .slice qm5 jm5 dm5, .bool sm6, .slice pm6 km6 cm6, .slice qm6 jm6 dm6]), .has (fun v w => PS nm w v R16 R17), .has (fun v w => PN (((((nm + (1 + (nm + nm + (nm + nm) + 1))) + (nm + (1 + (nm + nm + (nm + nm) + 1))) + 1)) + nm) + ((((nm + (1 + (nm + nm + (nm + nm) + 1))) + (nm + (1 + (nm + nm + (nm + nm) + 1))) + 1)) + nm) + 1) w v R18 R19), .has (fun v y => NewBox W5 28 #[.bool false, .slice none 0 0, .slice none 0 0, .bool false, .slice none 0 0, .slice none 0 0] v y)] (by kernel_rfl) (by kernel_rfl) rfl (fun j hj => by cases hj) (by intro j hj; simp only [List.mem_cons, List.not_mem_nil, or_false] at hj; rcases hj with rfl <;> exact ⟨_, _, rfl, (fun e w => by go_simp; exact ⟨_, rfl, Nat.le_refl _⟩), rfl, NewBox.lies⟩) (by simp only [Steady]; exact ⟨fun _ _ _ h hb => h.bel hb, fun _ _ _ h hb => h.bel hb, fun _ _ _ h hb => h.bel hb, trivial⟩) ?_
  simp only [List.take_succ_cons, List.take_zero, List.drop_succ_cons, List.drop_zero]
  refine gV (by rfl) (fun w1 hw1 _ => load_at rfl rfl (hw1.heap HX4_18.out) rfl Tryz.underlying72 rfl (by kernel_rfl)) ?_
  simp only [Act.put, sA, sB, sC]
  refine gV (by rfl) (fun w1 hw1 _ => load_at rfl rfl (hw1.heap (HBW_.out.heap HXp0.out)) rfl Tryz.underlying72 rfl (by kernel_rfl)) ?_
  simp only [Act.put, sA, sB, sC]
  refine gH (by rfl) (by intro w1 hw1 hk1; exact HC5_2.out _ _ (HPm.out.bel (HBW.out.trans hw1))) (by intro; go_simp) (fun v2 => ?_)
  simp only [Act.put, sA, sB, sC]
  refine gH (by rfl) (by intro w1 hw1 hk1; obtain ⟨g2, -⟩ := hk1; exact HC5_3.out _ _ _ (Hg17_4.out.bel hw1) g2) (by intro; go_simp) (fun v3 => ?_)
  simp only [Act.put, sA, sB, sC]
  refine flowF_has (by intro w1 hw1 hk1; refine want (by rfl) (gives_new (c := .pointer (some ⟨w1.heap.size, 0, none⟩)) (w' := w1.alloc (.cells #[.bool false, .slice none 0 0, .slice none 0 0, .bool false, .slice none 0 0, .slice none 0 0] 28)) (by go_simp) ((Bel.refl w1).alloc _) ?_); exact NewBox.new hw1) (fun v4 => ?_)
  simp only [Act.put, sA, sB, sC]
  intro W6 hW6 hk1 hap
  obtain ⟨g4, g3, g2, -⟩ := hk1
  have hnn4 := g4
  clear g4
  obtain ⟨X5_4, rfl, hgeX5_4, hxX5_4⟩ := hnn4
  obtain ⟨sr3_5x1, pr3_5x1, kr3_5x1, cr3_5x1, qr3_5x1, jr3_5x1, dr3_5x1, sr3_5x2, pr3_5x2, kr3_5x2, cr3_5x2, qr3_5x2, jr3_5x2, dr3_5x2, rfl, g3_1, g3_2⟩ := g3.parts
  have ht0 := stoW (w := W5) (t := 28) [.bool sr3_5x1, .slice pr3_5x1 kr3_5x1 cr3_5x1, .slice qr3_5x1 jr3_5x1 dr3_5x1, .bool sr3_5x2, .slice pr3_5x2 kr3_5x2 cr3_5x2, .slice qr3_5x2 jr3_5x2 dr3_5x2] (hxX5_4) (hW6) rfl rfl hgeX5_4
  refine lt_store rfl rfl rfl rfl (hxX5_4) rfl (by kernel_rfl) rfl rfl ?_
  generalize hW7 : World.setCells _ _ _ _ = W7
  go_upto_region 6 with fail
  have hb2 := ht0.bel
  rw [hW7] at hb2
  have Hg3_5 := g3.lim (ht0.lim)
  rw [hW7] at Hg3_5
  replace Hg3_5 := Lib.hid Hg3_5
  have Hg3_5_1 := g3_1.lim (ht0.lim)
  rw [hW7] at Hg3_5_1
  replace Hg3_5_1 := Lib.hid Hg3_5_1
  have Hg3_5_2 := g3_2.lim (ht0.lim)
  rw [hW7] at Hg3_5_2
  replace Hg3_5_2 := Lib.hid Hg3_5_2
  have HX5_4 := ht0.heap
  rw [hW7] at HX5_4
  replace HX5_4 := Lib.hid HX5_4
  have HOX5_4 : Hid (X4_18 < X5_4) := Nat.lt_of_lt_of_le (heap_lt (HX4_18.out)) hgeX5_4
  have hgwX5_4 : w.heap.size ≤ X5_4 := Nat.le_trans HBW.out.size hgeX5_4
  replace HBW := Lib.hid (HBW.out.trans hb2)
  replace HBW_ := Lib.hid (HBW_.out.trans hb2)
  replace HBW2_ := Lib.hid (HBW2_.out.trans hb2)
  replace HBW3_ := Lib.hid (HBW3_.out.trans hb2)
  have HBW5_ := Lib.hid hb2
  clear hW6 g3 hxX5_4 g2 g3_1 g3_2 hgeX5_4 hap hb2 hW7 ht0
  refine region_flow 7 [[], [0], [1], [], [3], [4], []] [.is (.pointer (some ⟨X5_4, 0, none⟩)), .is (.agg #[.bool sr3_5x1, .slice pr3_5x1 kr3_5x1 cr3_5x1, .slice qr3_5x1 jr3_5x1 dr3_5x1]), .has (fun v w => RN (((((nm + (1 + (nm + nm + (nm + nm) + 1))) + (nm + (1 + (nm + nm + (nm + nm) + 1))) + 1)) + nm) + ((((nm + (1 + (nm + nm + (nm + nm) + 1))) + (nm + (1 + (nm + nm + (nm + nm) + 1))) + 1)) + nm) + 1) w v R20), .is (.pointer (some ⟨X5_4, 3, none⟩)), .is (.agg #[.bool sr3_5x2, .slice pr3_5x2 kr3_5x2 cr3_5x2, .slice qr3_5x2 jr3_5x2 dr3_5x2]), .has (fun v w => RN (((((nm + (1 + (nm + nm + (nm + nm) + 1))) + (nm + (1 + (nm + nm + (nm + nm) + 1))) + 1)) + nm) + ((((nm + (1 + (nm + nm + (nm + nm) + 1))) + (nm + (1 + (nm + nm + (nm + nm) + 1))) + 1)) + nm) + 1) w v R21), .is (.pointer (some ⟨X4_18, 12, none⟩))] (by kernel_rfl) (by kernel_rfl) rfl (by simp only [Steady]; exact ⟨fun _ _ _ h hb => h.bel hb, fun _ _ _ h hb => h.bel hb, trivial⟩) ?_
  simp only [List.take_succ_cons, List.take_zero, List.drop_succ_cons, List.drop_zero]
  refine fV (by rfl) (by intro w1 hw1 hk1; go_simp) ?_
  simp only [Act.put, sA, sB, sC]
  refine fV (by rfl) (fun w1 hw1 _ => load_at rfl rfl (hw1.heap HX5_4.out) rfl Tryz.underlying26 rfl (by kernel_rfl)) ?_
  simp only [Act.put, sA, sB, sC]
  refine fH (by rfl) (by intro w1 hw1 hk1; exact HC6_2.out _ _ (Hg3_5_1.out.bel hw1)) (by intro; go_simp) (fun v2 => ?_)
  simp only [Act.put, sA, sB, sC]
  refine fV (by rfl) (by intro w1 hw1 hk1; go_simp) ?_
  simp only [Act.put, sA, sB, sC]
  refine fV (by rfl) (fun w1 hw1 _ => load_at rfl rfl (hw1.heap HX5_4.out) rfl Tryz.underlying26 rfl (by kernel_rfl)) ?_
  simp only [Act.put, sA, sB, sC]
  refine fH (by rfl) (by intro w1 hw1 hk1; exact HC6_5.out _ _ (Hg3_5_2.out.bel hw1)) (by intro; go_simp) (fun v5 => ?_)
  simp only [Act.put, sA, sB, sC]
  refine fV (by rfl) (by intro w1 hw1 hk1; go_simp) ?_
  simp only [Act.put, sA, sB, sC]
  intro W8 hW8 hk1
  obtain ⟨g5, g2, -⟩ := hk1
  obtain ⟨sr2_6x1, pr2_6x1, kr2_6x1, cr2_6x1, qr2_6x1, jr2_6x1, dr2_6x1, rfl⟩ := g2.parts
  obtain ⟨sr5_6x1, pr5_6x1, kr5_6x1, cr5_6x1, qr5_6x1, jr5_6x1, dr5_6x1, rfl⟩ := g5.parts
  have ht0 := stoM (w := w) (t := 72) 12 [.bool sr2_6x1, .slice pr2_6x1 kr2_6x1 cr2_6x1, .slice qr2_6x1 jr2_6x1 dr2_6x1] [.bool sr17_4x1, .slice pr17_4x1 kr17_4x1 cr17_4x1, .slice qr17_4x1 jr17_4x1 dr17_4x1, .bool sr17_4x2, .slice pr17_4x2 kr17_4x2 cr17_4x2, .slice qr17_4x2 jr17_4x2 dr17_4x2, .bool sr17_4x3, .slice pr17_4x3 kr17_4x3 cr17_4x3, .slice qr17_4x3 jr17_4x3 dr17_4x3, .bool sr17_4x4, .slice pr17_4x4 kr17_4x4 cr17_4x4, .slice qr17_4x4 jr17_4x4 dr17_4x4, .bool sr2_6x1, .slice pr2_6x1 kr2_6x1 cr2_6x1, .slice qr2_6x1 jr2_6x1 dr2_6x1, .bool sr17_4x6, .slice pr17_4x6 kr17_4x6 cr17_4x6, .slice qr17_4x6 jr17_4x6 dr17_4x6] (hW8.heap (HBW5_.out.heap HX4_18.out)) (HBW.out.trans hW8) rfl rfl hgwX4_18
  refine lt_store rfl rfl rfl rfl (hW8.heap (HBW5_.out.heap HX4_18.out)) rfl (by kernel_rfl) rfl rfl ?_
  have ht1 := stoM (w := w) (t := 72) 15 [.bool sr5_6x1, .slice pr5_6x1 kr5_6x1 cr5_6x1, .slice qr5_6x1 jr5_6x1 dr5_6x1] [.bool sr17_4x1, .slice pr17_4x1 kr17_4x1 cr17_4x1, .slice qr17_4x1 jr17_4x1 dr17_4x1, .bool sr17_4x2, .slice pr17_4x2 kr17_4x2 cr17_4x2, .slice qr17_4x2 jr17_4x2 dr17_4x2, .bool sr17_4x3, .slice pr17_4x3 kr17_4x3 cr17_4x3, .slice qr17_4x3 jr17_4x3 dr17_4x3, .bool sr17_4x4, .slice pr17_4x4 kr17_4x4 cr17_4x4, .slice qr17_4x4 jr17_4x4 dr17_4x4, .bool sr2_6x1, .slice pr2_6x1 kr2_6x1 cr2_6x1, .slice qr2_6x1 jr2_6x1 dr2_6x1, .bool sr5_6x1, .slice pr5_6x1 kr5_6x1 cr5_6x1, .slice qr5_6x1 jr5_6x1 dr5_6x1] (ht0.heap) (ht0.bel) rfl rfl hgwX4_18
  refine lt_value (.pointer (some ⟨X4_18, 15, none⟩)) rfl (by go_simp) ?_
  simp only [Act.put, sA, sB, sC]
  refine lt_store rfl rfl rfl rfl (ht0.heap) rfl (by kernel_rfl) rfl rfl ?_
  generalize hW9 : World.setCells _ _ _ _ = W9
  go_upto_region 7 with fail
  have hb2 := ht1.bel
  rw [hW9] at hb2
  have Hg2_6 := g2.lim ((ht0.lim).trans ht1.lim)
  rw [hW9] at Hg2_6
  replace Hg2_6 := Lib.hid Hg2_6
  have Hg5_6 := g5.lim ((ht0.lim).trans ht1.lim)
  rw [hW9] at Hg5_6
  replace Hg5_6 := Lib.hid Hg5_6
  replace Hg5_1 := (((Hg5_1.out.bel HBW2_.out)).bel hW8).lim ((ht0.lim).trans ht1.lim)
  rw [hW9] at Hg5_1
  replace Hg5_1 := Lib.hid Hg5_1
  replace Hg17_4 := (((Hg17_4.out.bel HBW5_.out)).bel hW8).lim ((ht0.lim).trans ht1.lim)
  rw [hW9] at Hg17_4
  replace Hg17_4 := Lib.hid Hg17_4
  replace Hg3_5 := ((Hg3_5.out).bel hW8).lim ((ht0.lim).trans ht1.lim)
  rw [hW9] at Hg3_5
  replace Hg3_5 := Lib.hid Hg3_5
  replace Hg17_4_1 := (((Hg17_4_1.out.bel HBW5_.out)).bel hW8).lim ((ht0.lim).trans ht1.lim)
  rw [hW9] at Hg17_4_1
  replace Hg17_4_1 := Lib.hid Hg17_4_1
  replace Hg17_4_2 := (((Hg17_4_2.out.bel HBW5_.out)).bel hW8).lim ((ht0.lim).trans ht1.lim)
  rw [hW9] at Hg17_4_2
  replace Hg17_4_2 := Lib.hid Hg17_4_2
  replace Hg17_4_3 := (((Hg17_4_3.out.bel HBW5_.out)).bel hW8).lim ((ht0.lim).trans ht1.lim)
  rw [hW9] at Hg17_4_3
  replace Hg17_4_3 := Lib.hid Hg17_4_3
  replace Hg17_4_4 := (((Hg17_4_4.out.bel HBW5_.out)).bel hW8).lim ((ht0.lim).trans ht1.lim)
  rw [hW9] at Hg17_4_4
  replace Hg17_4_4 := Lib.hid Hg17_4_4
  replace Hg17_4_5 := (((Hg17_4_5.out.bel HBW5_.out)).bel hW8).lim ((ht0.lim).trans ht1.lim)
  rw [hW9] at Hg17_4_5
  replace Hg17_4_5 := Lib.hid Hg17_4_5
  replace Hg17_4_6 := (((Hg17_4_6.out.bel HBW5_.out)).bel hW8).lim ((ht0.lim).trans ht1.lim)
  rw [hW9] at Hg17_4_6
  replace Hg17_4_6 := Lib.hid Hg17_4_6
  replace Hg3_5_1 := ((Hg3_5_1.out).bel hW8).lim ((ht0.lim).trans ht1.lim)
  rw [hW9] at Hg3_5_1
  replace Hg3_5_1 := Lib.hid Hg3_5_1
  replace Hg3_5_2 := ((Hg3_5_2.out).bel hW8).lim ((ht0.lim).trans ht1.lim)
  rw [hW9] at Hg3_5_2
  replace Hg3_5_2 := Lib.hid Hg3_5_2
  replace HXp0 := ht1.oth _ _ (by have q0 := HLT.out; have q1 := HOX1_7.out; have q2 := HOX4_18.out; have q3 := HOX5_4.out; omega) (ht0.oth _ _ (by have q0 := HLT.out; have q1 := HOX1_7.out; have q2 := HOX4_18.out; have q3 := HOX5_4.out; omega) (hW8.heap (HBW_.out.heap HXp0.out)))
  rw [hW9] at HXp0
  replace HXp0 := Lib.hid HXp0
  replace HXR := ht1.oth _ _ (by have q0 := HLT.out; have q1 := HOX1_7.out; have q2 := HOX4_18.out; have q3 := HOX5_4.out; omega) (ht0.oth _ _ (by have q0 := HLT.out; have q1 := HOX1_7.out; have q2 := HOX4_18.out; have q3 := HOX5_4.out; omega) (hW8.heap (HBW_.out.heap HXR.out)))
  rw [hW9] at HXR
  replace HXR := Lib.hid HXR
  replace HX1_7 := ht1.oth _ _ (by have q0 := HLT.out; have q1 := HOX1_7.out; have q2 := HOX4_18.out; have q3 := HOX5_4.out; omega) (ht0.oth _ _ (by have q0 := HLT.out; have q1 := HOX1_7.out; have q2 := HOX4_18.out; have q3 := HOX5_4.out; omega) (hW8.heap (HBW2_.out.heap HX1_7.out)))
  rw [hW9] at HX1_7
  replace HX1_7 := Lib.hid HX1_7
  replace HX4_18 := ht1.heap
  rw [hW9] at HX4_18
  replace HX4_18 := Lib.hid HX4_18
  replace HX5_4 := ht1.oth _ _ (by have q0 := HLT.out; have q1 := HOX1_7.out; have q2 := HOX4_18.out; have q3 := HOX5_4.out; omega) (ht0.oth _ _ (by have q0 := HLT.out; have q1 := HOX1_7.out; have q2 := HOX4_18.out; have q3 := HOX5_4.out; omega) (hW8.heap HX5_4.out))
  rw [hW9] at HX5_4
  replace HX5_4 := Lib.hid HX5_4
  replace HBW := Lib.hid hb2
  clear HBW_
  clear HBW2_
  clear HBW3_
  clear HBW5_
  clear hW8 g2 g5 hb2 hW9 ht0 ht1
  refine line_region 1 [[]] [.is (.agg #[.bool sr17_4x1, .slice pr17_4x1 kr17_4x1 cr17_4x1, .slice qr17_4x1 jr17_4x1 dr17_4x1, .bool sr17_4x2, .slice pr17_4x2 kr17_4x2 cr17_4x2, .slice qr17_4x2 jr17_4x2 dr17_4x2, .bool sr17_4x3, .slice pr17_4x3 kr17_4x3 cr17_4x3, .slice qr17_4x3 jr17_4x3 dr17_4x3, .bool sr17_4x4, .slice pr17_4x4 kr17_4x4 cr17_4x4, .slice qr17_4x4 jr17_4x4 dr17_4x4, .bool sr2_6x1, .slice pr2_6x1 kr2_6x1 cr2_6x1, .slice qr2_6x1 jr2_6x1 dr2_6x1, .bool sr5_6x1, .slice pr5_6x1 kr5_6x1 cr5_6x1, .slice qr5_6x1 jr5_6x1 dr5_6x1])] rfl rfl (by decide) (by simp only [Steady]) ?_
  simp only [List.take_succ_cons, List.take_zero, List.drop_succ_cons, List.drop_zero]
  refine fV (by rfl) (fun w1 hw1 _ => load_at rfl rfl (hw1.heap HX4_18.out) rfl Tryz.underlying72 rfl (by kernel_rfl)) ?_
  simp only [Act.put, sA, sB, sC]
  intro W10 hW10 hk1
  have HV := Lib.hid (ms_mk ((Hg17_4_1.out.bel hW10).mono (m := ((((nm + (1 + (nm + nm + (nm + nm) + 1))) + (nm + (1 + (nm + nm + (nm + nm) + 1))) + 1)) + (((((nm + (1 + (nm + nm + (nm + nm) + 1))) + (nm + (1 + (nm + nm + (nm + nm) + 1))) + 1)) + nm) + ((((nm + (1 + (nm + nm + (nm + nm) + 1))) + (nm + (1 + (nm + nm + (nm + nm) + 1))) + 1)) + nm) + 1))) (by have := HLB.out; omega)) ((Hg17_4_2.out.bel hW10).mono (m := ((((nm + (1 + (nm + nm + (nm + nm) + 1))) + (nm + (1 + (nm + nm + (nm + nm) + 1))) + 1)) + (((((nm + (1 + (nm + nm + (nm + nm) + 1))) + (nm + (1 + (nm + nm + (nm + nm) + 1))) + 1)) + nm) + ((((nm + (1 + (nm + nm + (nm + nm) + 1))) + (nm + (1 + (nm + nm + (nm + nm) + 1))) + 1)) + nm) + 1))) (by have := HLB.out; omega)) ((Hg17_4_3.out.bel hW10).mono (m := ((((nm + (1 + (nm + nm + (nm + nm) + 1))) + (nm + (1 + (nm + nm + (nm + nm) + 1))) + 1)) + (((((nm + (1 + (nm + nm + (nm + nm) + 1))) + (nm + (1 + (nm + nm + (nm + nm) + 1))) + 1)) + nm) + ((((nm + (1 + (nm + nm + (nm + nm) + 1))) + (nm + (1 + (nm + nm + (nm + nm) + 1))) + 1)) + nm) + 1))) (by have := HLB.out; omega)) ((Hg17_4_4.out.bel hW10).mono (m := ((((nm + (1 + (nm + nm + (nm + nm) + 1))) + (nm + (1 + (nm + nm + (nm + nm) + 1))) + 1)) + (((((nm + (1 + (nm + nm + (nm + nm) + 1))) + (nm + (1 + (nm + nm + (nm + nm) + 1))) + 1)) + nm) + ((((nm + (1 + (nm + nm + (nm + nm) + 1))) + (nm + (1 + (nm + nm + (nm + nm) + 1))) + 1)) + nm) + 1))) (by have := HLB.out; omega)) (((Hg2_6.out.bel hW10).rs (by have := HLB.out; omega)).mono (m := ((((nm + (1 + (nm + nm + (nm + nm) + 1))) + (nm + (1 + (nm + nm + (nm + nm) + 1))) + 1)) + (((((nm + (1 + (nm + nm + (nm + nm) + 1))) + (nm + (1 + (nm + nm + (nm + nm) + 1))) + 1)) + nm) + ((((nm + (1 + (nm + nm + (nm + nm) + 1))) + (nm + (1 + (nm + nm + (nm + nm) + 1))) + 1)) + nm) + 1))) (by have := HLB.out; omega)) (((Hg5_6.out.bel hW10).rs (by have := HLB.out; omega)).mono (m := ((((nm + (1 + (nm + nm + (nm + nm) + 1))) + (nm + (1 + (nm + nm + (nm + nm) + 1))) + 1)) + (((((nm + (1 + (nm + nm + (nm + nm) + 1))) + (nm + (1 + (nm + nm + (nm + nm) + 1))) + 1)) + nm) + ((((nm + (1 + (nm + nm + (nm + nm) + 1))) + (nm + (1 + (nm + nm + (nm + nm) + 1))) + 1)) + nm) + 1))) (by have := HLB.out; omega)))
  have hfb := Lib.hid (HBW.out.trans hW10)
  have hhX := hW10.heap HXR.out
  have HHX := Lib.hid hhX
  clear hhX hW10
  have ht := stoW (w := w) (t := 72) [.bool sr17_4x1, .slice pr17_4x1 kr17_4x1 cr17_4x1, .slice qr17_4x1 jr17_4x1 dr17_4x1, .bool sr17_4x2, .slice pr17_4x2 kr17_4x2 cr17_4x2, .slice qr17_4x2 jr17_4x2 dr17_4x2, .bool sr17_4x3, .slice pr17_4x3 kr17_4x3 cr17_4x3, .slice qr17_4x3 jr17_4x3 dr17_4x3, .bool sr17_4x4, .slice pr17_4x4 kr17_4x4 cr17_4x4, .slice qr17_4x4 jr17_4x4 dr17_4x4, .bool sr2_6x1, .slice pr2_6x1 kr2_6x1 cr2_6x1, .slice qr2_6x1 jr2_6x1 dr2_6x1, .bool sr5_6x1, .slice pr5_6x1 kr5_6x1 cr5_6x1, .slice qr5_6x1 jr5_6x1 dr5_6x1] HHX.out hfb.out rfl rfl HGEXR.out
  refine lt_store rfl rfl rfl rfl HHX.out rfl (by kernel_rfl) rfl rfl ?_
  generalize hWR : World.setCells _ _ _ _ = WR
  go_wp2
  rw [hWR] at ht
  exact bodyPost_ret (results_cell_two Tryz.results54 XR rfl rfl ht.heap Tryz.underlying72 rfl (by kernel_rfl)) rfl ⟨_, rfl, ht.bel, ⟨_, rfl, HV.out.lim ht.lim⟩⟩
set_option maxHeartbeats 4000000 in
set_option maxRecDepth 100000 in
theorem au_minv0 {w : World} {m : Value} {am bm cm dm em fm : Rat} {nm : Nat} (hm : MS nm w m am bm cm dm em fm) (hl : 400 * nm + 400 < LimK) (HD : am * dm - bm * cm = 0) : Calls Tryz.prog 54 #[m] w (Makes w fun v _ => v = .tuple #[.agg #[.bool false, .slice none 0 0, .slice none 0 0, .bool false, .slice none 0 0, .slice none 0 0, .bool false, .slice none 0 0, .slice none 0 0, .bool false, .slice none 0 0, .slice none 0 0, .bool false, .slice none 0 0, .slice none 0 0, .bool false, .slice none 0 0, .slice none 0 0], .int .i64 12]) := by
  obtain ⟨R1, hR1⟩ : ∃ Z, mkRat 1 1 = Z := ⟨_, rfl⟩
  have HC1_0 : Hid (∀ X, Calls Tryz.prog 45 #[.int .i64 1, .int .i64 1] X (Makes X (fun v w => RN 1 w v R1))) := fun X => by subst hR1; exact au_rof (p := 1) (q := 1) (by decide) (by decide) (by decide) (by decide) X
  obtain ⟨R2, hR2⟩ : ∃ Z, (am) * (dm) - (bm) * (cm) = Z := ⟨_, rfl⟩
  have HC1_2 : Hid (∀ X u0, MS nm X u0 am bm cm dm em fm → Calls Tryz.prog 63 #[u0] X (Makes X (fun v w => RN (nm + nm + (nm + nm) + 1) w v R2))) := fun X u0 h0 => by subst hR2; exact au_mdet (nm := nm) h0 (by omega)
  have HC1_3 : Hid (∀ X u0 u1, RN 1 X u0 R1 → RN (nm + nm + (nm + nm) + 1) X u1 R2 → Calls Tryz.prog 87 #[u0, u1] X (Makes X (fun v _ => v = .tuple #[.agg #[.bool false, .slice none 0 0, .slice none 0 0], .int .i64 12]))) := fun X u0 u1 h0 h1 => au_rdiv0 (i := 1) (j := nm + nm + (nm + nm) + 1) (h0.rs (by omega)) (h1.rs (by omega)) (by omega) (by subst hR2 hR1; exact HD)
  clear hR1 hR2
  have HLB := Lib.hid hl
  clear hl HD
  obtain ⟨sm1, pm1, km1, cm1, qm1, jm1, dm1, sm2, pm2, km2, cm2, qm2, jm2, dm2, sm3, pm3, km3, cm3, qm3, jm3, dm3, sm4, pm4, km4, cm4, qm4, jm4, dm4, sm5, pm5, km5, cm5, qm5, jm5, dm5, sm6, pm6, km6, cm6, qm6, jm6, dm6, rfl, hm1, hm2, hm3, hm4, hm5, hm6⟩ := hm.parts
  have HPm := Lib.hid hm
  have HPm1 := Lib.hid hm1
  have HPm2 := Lib.hid hm2
  have HPm3 := Lib.hid hm3
  have HPm4 := Lib.hid hm4
  have HPm5 := Lib.hid hm5
  have HPm6 := Lib.hid hm6
  clear hm hm1 hm2 hm3 hm4 hm5 hm6
  go_enter Tryz.func54, Tryz.ntmps54
  go_upto_region 1 with fail
  obtain ⟨hXp0, hXR, hbw⟩ := boxes2 w (.cells #[.bool sm1, .slice pm1 km1 cm1, .slice qm1 jm1 dm1, .bool sm2, .slice pm2 km2 cm2, .slice qm2 jm2 dm2, .bool sm3, .slice pm3 km3 cm3, .slice qm3 jm3 dm3, .bool sm4, .slice pm4 km4 cm4, .slice qm4 jm4 dm4, .bool sm5, .slice pm5 km5 cm5, .slice qm5 jm5 dm5, .bool sm6, .slice pm6 km6 cm6, .slice qm6 jm6 dm6] 72) (.cells #[.bool false, .slice none 0 0, .slice none 0 0, .bool false, .slice none 0 0, .slice none 0 0, .bool false, .slice none 0 0, .slice none 0 0, .bool false, .slice none 0 0, .slice none 0 0, .bool false, .slice none 0 0, .slice none 0 0, .bool false, .slice none 0 0, .slice none 0 0] 72)
  obtain ⟨W, hW⟩ : ∃ W, (w.alloc (.cells #[.bool sm1, .slice pm1 km1 cm1, .slice qm1 jm1 dm1, .bool sm2, .slice pm2 km2 cm2, .slice qm2 jm2 dm2, .bool sm3, .slice pm3 km3 cm3, .slice qm3 jm3 dm3, .bool sm4, .slice pm4 km4 cm4, .slice qm4 jm4 dm4, .bool sm5, .slice pm5 km5 cm5, .slice qm5 jm5 dm5, .bool sm6, .slice pm6 km6 cm6, .slice qm6 jm6 dm6] 72)).alloc (.cells #[.bool false, .slice none 0 0, .slice none 0 0, .bool false, .slice none 0 0, .slice none 0 0, .bool false, .slice none 0 0, .slice none 0 0, .bool false, .slice none 0 0, .slice none 0 0, .bool false, .slice none 0 0, .slice none 0 0, .bool false, .slice none 0 0, .slice none 0 0] 72) = W := ⟨_, rfl⟩
  rw [hW] at hXp0 hXR hbw ⊢
  obtain ⟨Xp0, eXp0⟩ : ∃ X, w.heap.size = X := ⟨_, rfl⟩
  obtain ⟨XR, eXR⟩ : ∃ X, Xp0 + 1 = X := ⟨_, rfl⟩
  rw [eXp0, eXR]
  rw [eXp0] at hXp0 hXR
  rw [eXR] at hXR
  have HXp0 := Lib.hid hXp0
  have HXR := Lib.hid hXR
  have HBW := Lib.hid hbw
  have HGEXp0 : Hid (w.heap.size ≤ Xp0) := by unfold Hid; omega
  have HGEXR : Hid (w.heap.size ≤ XR) := by unfold Hid; omega
  have HLT : Hid (Xp0 < XR) := by unfold Hid; omega
  clear hW hbw hXp0 hXR eXp0 eXR
  refine region_flowT 8 [6] [7] [[], [], [1], [0, 2], [3], [4], [4], []] [.has (fun v w => RN 1 w v R1), .is (.agg #[.bool sm1, .slice pm1 km1 cm1, .slice qm1 jm1 dm1, .bool sm2, .slice pm2 km2 cm2, .slice qm2 jm2 dm2, .bool sm3, .slice pm3 km3 cm3, .slice qm3 jm3 dm3, .bool sm4, .slice pm4 km4 cm4, .slice qm4 jm4 dm4, .bool sm5, .slice pm5 km5 cm5, .slice qm5 jm5 dm5, .bool sm6, .slice pm6 km6 cm6, .slice qm6 jm6 dm6]), .has (fun v w => RN (nm + nm + (nm + nm) + 1) w v R2), .is (.tuple #[.agg #[.bool false, .slice none 0 0, .slice none 0 0], .int .i64 12]), .is (.tuple #[.agg #[.bool false, .slice none 0 0, .slice none 0 0], .int .i64 12]), .is (.agg #[.bool false, .slice none 0 0, .slice none 0 0]), .is (.int .i64 12), .has (fun v y => NewBox W 26 #[.bool false, .slice none 0 0, .slice none 0 0] v y)] (by kernel_rfl) (by kernel_rfl) rfl (by intro j hj; simp only [List.mem_cons, List.not_mem_nil, or_false] at hj; rcases hj with rfl <;> exact ⟨_, rfl⟩) (by intro j hj; simp only [List.mem_cons, List.not_mem_nil, or_false] at hj; rcases hj with rfl <;> exact ⟨_, _, rfl, (fun e w => by go_simp; exact ⟨_, rfl, Nat.le_refl _⟩), rfl, NewBox.lies⟩) (by simp only [Steady]; exact ⟨fun _ _ _ h hb => h.bel hb, fun _ _ _ h hb => h.bel hb, fun _ _ _ h hb => h.bel hb, trivial⟩) ?_
  simp only [List.take_succ_cons, List.take_zero, List.drop_succ_cons, List.drop_zero]
  refine hH (by rfl) (by intro w1 hw1 hk1; exact HC1_0.out _) (by intro; go_simp) (fun v0 => ?_)
  simp only [Act.put, sA, sB, sC]
  refine hV (by rfl) (by rfl) (fun w1 hw1 _ => load_at rfl rfl (hw1.heap HXp0.out) rfl Tryz.underlying72 rfl (by kernel_rfl)) ?_
  simp only [Act.put, sA, sB, sC]
  refine hH (by rfl) (by intro w1 hw1 hk1; exact HC1_2.out _ _ (HPm.out.bel (HBW.out.trans hw1))) (by intro; go_simp) (fun v2 => ?_)
  simp only [Act.put, sA, sB, sC]
  refine hC (by rfl) (by rfl) (by intro w1 hw1 hk1; obtain ⟨g2, g0, -⟩ := hk1; exact HC1_3.out _ _ _ g0 g2) (by intro; go_simp) ?_
  simp only [Act.put, sA, sB, sC]
  refine hV (by rfl) (by rfl) (by intro w1 hw1 hk1; go_simp) ?_
  simp only [Act.put, sA, sB, sC]
  refine hV (by rfl) (by rfl) (by intro w1 hw1 hk1; go_simp) ?_
  simp only [Act.put, sA, sB, sC]
  refine hR (by rfl) (by rfl) (by intro w2 hw2 hk1 w1 hw1; go_simp) ?_
  simp only [Act.put, sA, sB, sC]
  refine flowT_has (by intro w1 hw1 hk1; refine want (by rfl) (gives_new (c := .pointer (some ⟨w1.heap.size, 0, none⟩)) (w' := w1.alloc (.cells #[.bool false, .slice none 0 0, .slice none 0 0] 26)) (by go_simp) ((Bel.refl w1).alloc _) ?_); exact NewBox.new hw1) (fun v7 => ?_)
  simp only [Act.put, sA, sB, sC]
  intro W1 hW1 hk1 hap
  obtain ⟨g7, g2, g0, -⟩ := hk1
  have hnn7 := g7
  clear g7
  obtain ⟨X1_7, rfl, hgeX1_7, hxX1_7⟩ := hnn7
  have ht0 := stoW (w := W) (t := 26) [.bool false, .slice none 0 0, .slice none 0 0] (hxX1_7) (hW1) rfl rfl hgeX1_7
  refine tail_store _ rfl (by rfl) (run_store rfl rfl rfl (hxX1_7) rfl (by kernel_rfl) rfl) ht0.bel ?_
  generalize hW2 : World.setCells _ _ _ _ = W2
  refine tail_line (by kernel_rfl) ?_
  go_upto_region 2 with fail
  have hb2 := ht0.bel
  rw [hW2] at hb2
  have HX1_7 := ht0.heap
  rw [hW2] at HX1_7
  replace HX1_7 := Lib.hid HX1_7
  have hgwX1_7 : w.heap.size ≤ X1_7 := Nat.le_trans HBW.out.size hgeX1_7
  replace HBW := Lib.hid (HBW.out.trans hb2)
  have HBW_ := Lib.hid hb2
  clear hW1 hxX1_7 g0 g2 hgeX1_7 hap hb2 hW2 ht0
  refine line_region 2 [[], [0]] [.is (.int .i64 12), .is (.bool true)] rfl rfl (by decide) (by simp only [Steady]) ?_
  simp only [List.take_succ_cons, List.take_zero, List.drop_succ_cons, List.drop_zero]
  refine fV (by rfl) (by intro w1 hw1 hk1; go_simp) ?_
  simp only [Act.put, sA, sB, sC]
  refine flow_is (by intro w1 hw1 hk1; refine want (by rfl) (gives_val ?_); go_simp; (first | done | rfl)) ?_
  simp only [Act.put, sA, sB, sC]
  intro W3 hW3 hk1
  have hb2 := hW3
  replace HBW := Lib.hid (HBW.out.trans hb2)
  replace HBW_ := Lib.hid (HBW_.out.trans hb2)
  have HBW2_ := Lib.hid hb2
  clear hW3 hb2
  go_upto_region 3 with fail
  refine line_region 2 [[], []] [.is (.agg #[.bool false, .slice none 0 0, .slice none 0 0, .bool false, .slice none 0 0, .slice none 0 0, .bool false, .slice none 0 0, .slice none 0 0, .bool false, .slice none 0 0, .slice none 0 0, .bool false, .slice none 0 0, .slice none 0 0, .bool false, .slice none 0 0, .slice none 0 0]), .is (.int .i64 12)] rfl rfl (by decide) (by simp only [Steady]) ?_
  simp only [List.take_succ_cons, List.take_zero, List.drop_succ_cons, List.drop_zero]
  refine fV (by rfl) (by intro w1 hw1 hk1; go_simp) ?_
  simp only [Act.put, sA, sB, sC]
  refine fV (by rfl) (by intro w1 hw1 hk1; go_simp) ?_
  simp only [Act.put, sA, sB, sC]
  intro W4 hW4 hk1
  have hfb := Lib.hid (HBW.out.trans hW4)
  have hhX := hW4.heap (HBW_.out.heap HXR.out)
  have HHX := Lib.hid hhX
  clear hhX hW4
  have ht := stoW (w := w) (t := 72) [.bool false, .slice none 0 0, .slice none 0 0, .bool false, .slice none 0 0, .slice none 0 0, .bool false, .slice none 0 0, .slice none 0 0, .bool false, .slice none 0 0, .slice none 0 0, .bool false, .slice none 0 0, .slice none 0 0, .bool false, .slice none 0 0, .slice none 0 0] HHX.out hfb.out rfl rfl HGEXR.out
  refine lt_store rfl rfl rfl rfl HHX.out rfl (by kernel_rfl) rfl rfl ?_
  generalize hWR : World.setCells _ _ _ _ = WR
  go_wp2
  rw [hWR] at ht
  exact bodyPost_ret (results_cell_two Tryz.results54 XR rfl rfl ht.heap Tryz.underlying72 rfl (by kernel_rfl)) rfl ⟨_, rfl, ht.bel, rfl⟩
end Go.Proofs.YtafmfnpjhhaikaaGreatDoor
