/-
  fix.From, mat.Of, mat.One (printed by gen_mac.py).
-/
import Derived.Test.YtafmfnpjhhaikaaGreatDoorZax
namespace Go.Proofs.YtafmfnpjhhaikaaGreatDoor
open Go.RowKit Go.Shelf

set_option maxHeartbeats 4000000 in
set_option maxRecDepth 100000 in
theorem au_ffrom {v : Int} {u : Nat} (hv1 : -9223372036854775808 ≤ v) (hv2 : v < 9223372036854775808) (hu1 : 1 ≤ u) (hu2 : u < 9223372036854775808) (w : World) : Calls Tryz.prog 112 #[.int .i64 v, .int .i64 (u : Nat)] w (Makes w fun v' w' => RN 1 w' v' (mkRat v u)) := by
  obtain ⟨R1, hR1⟩ : ∃ Z, mkRat v u = Z := ⟨_, rfl⟩
  have HC3_2 : Hid (∀ X, Calls Tryz.prog 45 #[.int .i64 v, .int .i64 (u : Nat)] X (Makes X fun v w => RN 1 w v R1)) := fun X => by subst hR1; exact au_rof (p := v) (q := u) (by omega) (by omega) (by omega) (by omega) X
  have HL1_1 : Hid (¬ (u : Nat) < 1) := by unfold Hid; omega
  suffices HS : Calls Tryz.prog 112 #[.int .i64 v, .int .i64 (u : Nat)] w (Makes w (fun v w' => RN 1 w' v R1)) by
    subst hR1; exact HS
  clear hR1
  clear hv1 hv2 hu1 hu2
  go_enter Tryz.func112, Tryz.ntmps112
  go_upto_region 1 with fail
  obtain ⟨hXR, hbw⟩ := boxes1 w (.cells #[.bool false, .slice none 0 0, .slice none 0 0] 26)
  obtain ⟨W, hW⟩ : ∃ W, w.alloc (.cells #[.bool false, .slice none 0 0, .slice none 0 0] 26) = W := ⟨_, rfl⟩
  rw [hW] at hXR hbw ⊢
  obtain ⟨XR, eXR⟩ : ∃ X, w.heap.size = X := ⟨_, rfl⟩
  rw [eXR]
  rw [eXR] at hXR
  have HXR := Lib.hid hXR
  have HBW := Lib.hid hbw
  have HGEXR : Hid (w.heap.size ≤ XR) := by unfold Hid; omega
  clear hW hbw hXR eXR
  refine line_region 2 [[], [0]] [.is (.int .i64 (u : Nat)), .is (.bool false)] rfl rfl (by decide) (by simp only [Steady]) ?_
  simp only [List.take_succ_cons, List.take_zero, List.drop_succ_cons, List.drop_zero]
  refine fV (by rfl) (by intro w1 hw1 hk1; go_simp) ?_
  simp only [Act.put, sA, sB, sC]
  refine flow_is (by intro w1 hw1 hk1; refine want (by rfl) (gives_val ?_); have q := HL1_1.out; go_simp; (first | done | simp [q] | omega)) ?_
  simp only [Act.put, sA, sB, sC]
  intro W1 hW1 hk1
  have hb2 := hW1
  replace HBW := Lib.hid (HBW.out.trans hb2)
  have HBW_ := Lib.hid hb2
  clear hW1 hb2
  go_upto_region 3 with fail
  refine line_region 3 [[], [], [0, 1]] [.is (.int .i64 v), .is (.int .i64 (u : Nat)), .has (fun v w => RN 1 w v R1)] rfl rfl (by decide) (by simp only [Steady]; exact ⟨fun _ _ _ h hb => h.bel hb, trivial⟩) ?_
  simp only [List.take_succ_cons, List.take_zero, List.drop_succ_cons, List.drop_zero]
  refine fV (by rfl) (by intro w1 hw1 hk1; go_simp) ?_
  simp only [Act.put, sA, sB, sC]
  refine fV (by rfl) (by intro w1 hw1 hk1; go_simp) ?_
  simp only [Act.put, sA, sB, sC]
  refine fH (by rfl) (by intro w1 hw1 hk1; exact HC3_2.out _) (by intro; go_simp) (fun v2 => ?_)
  simp only [Act.put, sA, sB, sC]
  intro W2 hW2 hk1
  obtain ⟨g2, -⟩ := hk1
  obtain ⟨sr2_3x1, pr2_3x1, kr2_3x1, cr2_3x1, qr2_3x1, jr2_3x1, dr2_3x1, rfl⟩ := g2.parts
  have HV := Lib.hid g2
  have hfb := Lib.hid (HBW.out.trans hW2)
  have hhX := hW2.heap (HBW_.out.heap HXR.out)
  have HHX := Lib.hid hhX
  clear hhX hW2 g2
  have ht := stoW (w := w) (t := 26) [.bool sr2_3x1, .slice pr2_3x1 kr2_3x1 cr2_3x1, .slice qr2_3x1 jr2_3x1 dr2_3x1] HHX.out hfb.out rfl rfl HGEXR.out
  refine lt_store rfl rfl rfl rfl HHX.out rfl (by kernel_rfl) rfl rfl ?_
  generalize hWR : World.setCells _ _ _ _ = WR
  go_wp2
  rw [hWR] at ht
  exact bodyPost_ret (results_cell_row Tryz.results112 _ _ XR _ _ _ _ rfl ht.heap Tryz.underlying26 rfl (by kernel_rfl)) rfl ⟨_, rfl, ht.bel, HV.out.lim ht.lim⟩
set_option maxHeartbeats 4000000 in
set_option maxRecDepth 100000 in
theorem au_mOf {z0 z1 z2 z3 z4 z5 : Int} (hz01 : -9223372036854775808 ≤ z0) (hz02 : z0 < 9223372036854775808) (hz11 : -9223372036854775808 ≤ z1) (hz12 : z1 < 9223372036854775808) (hz21 : -9223372036854775808 ≤ z2) (hz22 : z2 < 9223372036854775808) (hz31 : -9223372036854775808 ≤ z3) (hz32 : z3 < 9223372036854775808) (hz41 : -9223372036854775808 ≤ z4) (hz42 : z4 < 9223372036854775808) (hz51 : -9223372036854775808 ≤ z5) (hz52 : z5 < 9223372036854775808) (w : World) : Calls Tryz.prog 67 #[.agg #[.int .i64 z0, .int .i64 z1, .int .i64 z2, .int .i64 z3, .int .i64 z4, .int .i64 z5]] w (Makes w fun v' w' => MN 1 w' v' (mkRat z0 65536) (mkRat z1 65536) (mkRat z2 65536) (mkRat z3 65536) (mkRat z4 64) (mkRat z5 64)) := by
  obtain ⟨R1, hR1⟩ : ∃ Z, mkRat z0 65536 = Z := ⟨_, rfl⟩
  have HC1_2 : Hid (∀ X, Calls Tryz.prog 112 #[.int .i64 z0, .int .i64 65536] X (Makes X fun v w => RN 1 w v R1)) := fun X => by subst hR1; exact au_ffrom (v := z0) (u := 65536) (by omega) (by omega) (by decide) (by decide) X
  obtain ⟨R2, hR2⟩ : ∃ Z, mkRat z1 65536 = Z := ⟨_, rfl⟩
  have HC1_5 : Hid (∀ X, Calls Tryz.prog 112 #[.int .i64 z1, .int .i64 65536] X (Makes X fun v w => RN 1 w v R2)) := fun X => by subst hR2; exact au_ffrom (v := z1) (u := 65536) (by omega) (by omega) (by decide) (by decide) X
  obtain ⟨R3, hR3⟩ : ∃ Z, mkRat z2 65536 = Z := ⟨_, rfl⟩
  have HC1_8 : Hid (∀ X, Calls Tryz.prog 112 #[.int .i64 z2, .int .i64 65536] X (Makes X fun v w => RN 1 w v R3)) := fun X => by subst hR3; exact au_ffrom (v := z2) (u := 65536) (by omega) (by omega) (by decide) (by decide) X
  obtain ⟨R4, hR4⟩ : ∃ Z, mkRat z3 65536 = Z := ⟨_, rfl⟩
  have HC1_11 : Hid (∀ X, Calls Tryz.prog 112 #[.int .i64 z3, .int .i64 65536] X (Makes X fun v w => RN 1 w v R4)) := fun X => by subst hR4; exact au_ffrom (v := z3) (u := 65536) (by omega) (by omega) (by decide) (by decide) X
  obtain ⟨R5, hR5⟩ : ∃ Z, mkRat z4 64 = Z := ⟨_, rfl⟩
  have HC1_14 : Hid (∀ X, Calls Tryz.prog 112 #[.int .i64 z4, .int .i64 64] X (Makes X fun v w => RN 1 w v R5)) := fun X => by subst hR5; exact au_ffrom (v := z4) (u := 64) (by omega) (by omega) (by decide) (by decide) X
  obtain ⟨R6, hR6⟩ : ∃ Z, mkRat z5 64 = Z := ⟨_, rfl⟩
  have HC1_17 : Hid (∀ X, Calls Tryz.prog 112 #[.int .i64 z5, .int .i64 64] X (Makes X fun v w => RN 1 w v R6)) := fun X => by subst hR6; exact au_ffrom (v := z5) (u := 64) (by omega) (by omega) (by decide) (by decide) X
  suffices HS : Calls Tryz.prog 67 #[.agg #[.int .i64 z0, .int .i64 z1, .int .i64 z2, .int .i64 z3, .int .i64 z4, .int .i64 z5]] w (Makes w (fun v w' => MN 1 w' v R1 R2 R3 R4 R5 R6)) by
    subst hR6 hR5 hR4 hR3 hR2 hR1; exact HS
  clear hR1 hR2 hR3 hR4 hR5 hR6
  clear hz01 hz02 hz11 hz12 hz21 hz22 hz31 hz32 hz41 hz42 hz51 hz52
  go_enter Tryz.func67, Tryz.ntmps67
  go_upto_region 1 with fail
  obtain ⟨hXp0, hXR, hbw⟩ := boxes2 w (.cells #[.int .i64 z0, .int .i64 z1, .int .i64 z2, .int .i64 z3, .int .i64 z4, .int .i64 z5] 92) (.cells #[.bool false, .slice none 0 0, .slice none 0 0, .bool false, .slice none 0 0, .slice none 0 0, .bool false, .slice none 0 0, .slice none 0 0, .bool false, .slice none 0 0, .slice none 0 0, .bool false, .slice none 0 0, .slice none 0 0, .bool false, .slice none 0 0, .slice none 0 0] 72)
  obtain ⟨W, hW⟩ : ∃ W, (w.alloc (.cells #[.int .i64 z0, .int .i64 z1, .int .i64 z2, .int .i64 z3, .int .i64 z4, .int .i64 z5] 92)).alloc (.cells #[.bool false, .slice none 0 0, .slice none 0 0, .bool false, .slice none 0 0, .slice none 0 0, .bool false, .slice none 0 0, .slice none 0 0, .bool false, .slice none 0 0, .slice none 0 0, .bool false, .slice none 0 0, .slice none 0 0, .bool false, .slice none 0 0, .slice none 0 0] 72) = W := ⟨_, rfl⟩
  rw [hW] at hXp0 hXR hbw ⊢
  obtain ⟨Xp0, eXp0⟩ : ∃ X, w.heap.size = X := ⟨_, rfl⟩
  obtain ⟨XR, eXR⟩ : ∃ X, Xp0 + 1 = X := ⟨_, rfl⟩
  rw [eXp0, eXR]
  rw [eXp0] at hXp0 hXR
  rw [eXR] at hXR
  have HXp0 := Lib.hid hXp0
  have HXR := Lib.hid hXR
  have HBW := Lib.hid hbw
  have HGEXp0 : Hid (w.heap.size ≤ Xp0) := by unfold Hid; omega
  have HGEXR : Hid (w.heap.size ≤ XR) := by unfold Hid; omega
  have HLT : Hid (Xp0 < XR) := by unfold Hid; omega
  clear hW hbw hXp0 hXR eXp0 eXR
  refine region_flow 19 [[], [0], [1], [], [3], [4], [], [6], [7], [], [9], [10], [], [12], [13], [], [15], [16], [2, 5, 8, 11, 14, 17]] [.is (.pointer (some ⟨Xp0, 0, none⟩)), .is (.int .i64 z0), .has (fun v w => RN 1 w v R1), .is (.pointer (some ⟨Xp0, 1, none⟩)), .is (.int .i64 z1), .has (fun v w => RN 1 w v R2), .is (.pointer (some ⟨Xp0, 2, none⟩)), .is (.int .i64 z2), .has (fun v w => RN 1 w v R3), .is (.pointer (some ⟨Xp0, 3, none⟩)), .is (.int .i64 z3), .has (fun v w => RN 1 w v R4), .is (.pointer (some ⟨Xp0, 4, none⟩)), .is (.int .i64 z4), .has (fun v w => RN 1 w v R5), .is (.pointer (some ⟨Xp0, 5, none⟩)), .is (.int .i64 z5), .has (fun v w => RN 1 w v R6), .has (fun v w => MN 1 w v R1 R2 R3 R4 R5 R6)] (by kernel_rfl) (by kernel_rfl) rfl (by simp only [Steady]; exact ⟨fun _ _ _ h hb => h.bel hb, fun _ _ _ h hb => h.bel hb, fun _ _ _ h hb => h.bel hb, fun _ _ _ h hb => h.bel hb, fun _ _ _ h hb => h.bel hb, fun _ _ _ h hb => h.bel hb, fun _ _ _ h hb => h.bel hb, trivial⟩) ?_
  simp only [List.take_succ_cons, List.take_zero, List.drop_succ_cons, List.drop_zero]
  refine fV (by rfl) (by intro w1 hw1 hk1; go_simp) ?_
  simp only [Act.put, sA, sB, sC]
  refine fV (by rfl) (by intro w1 hw1 hk1; have c0 : w1.cell? ⟨Xp0, 0, none⟩ = some (.int .i64 z0) := (heap_cell (hw1.heap HXp0.out) 0).trans rfl; go_simp) ?_
  simp only [Act.put, sA, sB, sC]
  refine fH (by rfl) (by intro w1 hw1 hk1; exact HC1_2.out _) (by intro; go_simp) (fun v2 => ?_)
  simp only [Act.put, sA, sB, sC]
  refine fV (by rfl) (by intro w1 hw1 hk1; go_simp) ?_
  simp only [Act.put, sA, sB, sC]
  refine fV (by rfl) (by intro w1 hw1 hk1; have c1 : w1.cell? ⟨Xp0, 1, none⟩ = some (.int .i64 z1) := (heap_cell (hw1.heap HXp0.out) 1).trans rfl; go_simp) ?_
  simp only [Act.put, sA, sB, sC]
  refine fH (by rfl) (by intro w1 hw1 hk1; exact HC1_5.out _) (by intro; go_simp) (fun v5 => ?_)
  simp only [Act.put, sA, sB, sC]
  refine fV (by rfl) (by intro w1 hw1 hk1; go_simp) ?_
  simp only [Act.put, sA, sB, sC]
  refine fV (by rfl) (by intro w1 hw1 hk1; have c2 : w1.cell? ⟨Xp0, 2, none⟩ = some (.int .i64 z2) := (heap_cell (hw1.heap HXp0.out) 2).trans rfl; go_simp) ?_
  simp only [Act.put, sA, sB, sC]
  refine fH (by rfl) (by intro w1 hw1 hk1; exact HC1_8.out _) (by intro; go_simp) (fun v8 => ?_)
  simp only [Act.put, sA, sB, sC]
  refine fV (by rfl) (by intro w1 hw1 hk1; go_simp) ?_
  simp only [Act.put, sA, sB, sC]
  refine fV (by rfl) (by intro w1 hw1 hk1; have c3 : w1.cell? ⟨Xp0, 3, none⟩ = some (.int .i64 z3) := (heap_cell (hw1.heap HXp0.out) 3).trans rfl; go_simp) ?_
  simp only [Act.put, sA, sB, sC]
  refine fH (by rfl) (by intro w1 hw1 hk1; exact HC1_11.out _) (by intro; go_simp) (fun v11 => ?_)
  simp only [Act.put, sA, sB, sC]
  refine fV (by rfl) (by intro w1 hw1 hk1; go_simp) ?_
  simp only [Act.put, sA, sB, sC]
  refine fV (by rfl) (by intro w1 hw1 hk1; have c4 : w1.cell? ⟨Xp0, 4, none⟩ = some (.int .i64 z4) := (heap_cell (hw1.heap HXp0.out) 4).trans rfl; go_simp) ?_
  simp only [Act.put, sA, sB, sC]
  refine fH (by rfl) (by intro w1 hw1 hk1; exact HC1_14.out _) (by intro; go_simp) (fun v14 => ?_)
  simp only [Act.put, sA, sB, sC]
  refine fV (by rfl) (by intro w1 hw1 hk1; go_simp) ?_
  simp only [Act.put, sA, sB, sC]
  refine fV (by rfl) (by intro w1 hw1 hk1; have c5 : w1.cell? ⟨Xp0, 5, none⟩ = some (.int .i64 z5) := (heap_cell (hw1.heap HXp0.out) 5).trans rfl; go_simp) ?_
  simp only [Act.put, sA, sB, sC]
  refine fH (by rfl) (by intro w1 hw1 hk1; exact HC1_17.out _) (by intro; go_simp) (fun v17 => ?_)
  simp only [Act.put, sA, sB, sC]
  refine flow_has (by intro w1 hw1 hk1; obtain ⟨g17, g14, g11, g8, g5, g2, -⟩ := hk1; obtain ⟨sb18_01, pb18_01, kb18_01, cb18_01, qb18_01, jb18_01, db18_01, eb18_0⟩ := g2.parts; subst eb18_0; obtain ⟨sb18_11, pb18_11, kb18_11, cb18_11, qb18_11, jb18_11, db18_11, eb18_1⟩ := g5.parts; subst eb18_1; obtain ⟨sb18_21, pb18_21, kb18_21, cb18_21, qb18_21, jb18_21, db18_21, eb18_2⟩ := g8.parts; subst eb18_2; obtain ⟨sb18_31, pb18_31, kb18_31, cb18_31, qb18_31, jb18_31, db18_31, eb18_3⟩ := g11.parts; subst eb18_3; obtain ⟨sb18_41, pb18_41, kb18_41, cb18_41, qb18_41, jb18_41, db18_41, eb18_4⟩ := g14.parts; subst eb18_4; obtain ⟨sb18_51, pb18_51, kb18_51, cb18_51, qb18_51, jb18_51, db18_51, eb18_5⟩ := g17.parts; subst eb18_5; refine want (by rfl) (gives_of (c := .agg #[.bool sb18_01, .slice pb18_01 kb18_01 cb18_01, .slice qb18_01 jb18_01 db18_01, .bool sb18_11, .slice pb18_11 kb18_11 cb18_11, .slice qb18_11 jb18_11 db18_11, .bool sb18_21, .slice pb18_21 kb18_21 cb18_21, .slice qb18_21 jb18_21 db18_21, .bool sb18_31, .slice pb18_31 kb18_31 cb18_31, .slice qb18_31 jb18_31 db18_31, .bool sb18_41, .slice pb18_41 kb18_41 cb18_41, .slice qb18_41 jb18_41 db18_41, .bool sb18_51, .slice pb18_51 kb18_51 cb18_51, .slice qb18_51 jb18_51 db18_51]) (by go_simp) ?_); exact mn_mk g2 g5 g8 g11 g14 g17) (fun v18 => ?_)
  simp only [Act.put, sA, sB, sC]
  intro W1 hW1 hk1
  obtain ⟨g18, g17, g14, g11, g8, g5, g2, -⟩ := hk1
  obtain ⟨sr18_1x1, pr18_1x1, kr18_1x1, cr18_1x1, qr18_1x1, jr18_1x1, dr18_1x1, sr18_1x2, pr18_1x2, kr18_1x2, cr18_1x2, qr18_1x2, jr18_1x2, dr18_1x2, sr18_1x3, pr18_1x3, kr18_1x3, cr18_1x3, qr18_1x3, jr18_1x3, dr18_1x3, sr18_1x4, pr18_1x4, kr18_1x4, cr18_1x4, qr18_1x4, jr18_1x4, dr18_1x4, sr18_1x5, pr18_1x5, kr18_1x5, cr18_1x5, qr18_1x5, jr18_1x5, dr18_1x5, sr18_1x6, pr18_1x6, kr18_1x6, cr18_1x6, qr18_1x6, jr18_1x6, dr18_1x6, rfl, g18_1, g18_2, g18_3, g18_4, g18_5, g18_6⟩ := g18.parts
  have HV := Lib.hid g18
  have hfb := Lib.hid (HBW.out.trans hW1)
  have hhX := hW1.heap HXR.out
  have HHX := Lib.hid hhX
  clear hhX hW1 g2 g5 g8 g11 g14 g17 g18
  have ht := stoW (w := w) (t := 72) [.bool sr18_1x1, .slice pr18_1x1 kr18_1x1 cr18_1x1, .slice qr18_1x1 jr18_1x1 dr18_1x1, .bool sr18_1x2, .slice pr18_1x2 kr18_1x2 cr18_1x2, .slice qr18_1x2 jr18_1x2 dr18_1x2, .bool sr18_1x3, .slice pr18_1x3 kr18_1x3 cr18_1x3, .slice qr18_1x3 jr18_1x3 dr18_1x3, .bool sr18_1x4, .slice pr18_1x4 kr18_1x4 cr18_1x4, .slice qr18_1x4 jr18_1x4 dr18_1x4, .bool sr18_1x5, .slice pr18_1x5 kr18_1x5 cr18_1x5, .slice qr18_1x5 jr18_1x5 dr18_1x5, .bool sr18_1x6, .slice pr18_1x6 kr18_1x6 cr18_1x6, .slice qr18_1x6 jr18_1x6 dr18_1x6] HHX.out hfb.out rfl rfl HGEXR.out
  refine lt_store rfl rfl rfl rfl HHX.out rfl (by kernel_rfl) rfl rfl ?_
  generalize hWR : World.setCells _ _ _ _ = WR
  go_wp2
  rw [hWR] at ht
  exact bodyPost_ret (results_cell_row Tryz.results67 _ _ XR _ _ _ _ rfl ht.heap Tryz.underlying72 rfl (by kernel_rfl)) rfl ⟨_, rfl, ht.bel, HV.out.lim ht.lim⟩
set_option maxHeartbeats 4000000 in
set_option maxRecDepth 100000 in
theorem au_mOne (w : World) : Calls Tryz.prog 69 #[] w (Makes w fun v' w' => MN 1 w' v' 1 0 0 1 0 0) := by
  obtain ⟨R1, hR1⟩ : ∃ Z, mkRat 65536 65536 = Z := ⟨_, rfl⟩
  obtain ⟨R2, hR2⟩ : ∃ Z, mkRat 0 65536 = Z := ⟨_, rfl⟩
  obtain ⟨R3, hR3⟩ : ∃ Z, mkRat 0 65536 = Z := ⟨_, rfl⟩
  obtain ⟨R4, hR4⟩ : ∃ Z, mkRat 65536 65536 = Z := ⟨_, rfl⟩
  obtain ⟨R5, hR5⟩ : ∃ Z, mkRat 0 64 = Z := ⟨_, rfl⟩
  obtain ⟨R6, hR6⟩ : ∃ Z, mkRat 0 64 = Z := ⟨_, rfl⟩
  have HC1_1 : Hid (∀ X, Calls Tryz.prog 67 #[.agg #[.int .i64 65536, .int .i64 0, .int .i64 0, .int .i64 65536, .int .i64 0, .int .i64 0]] X (Makes X fun v w => MN 1 w v R1 R2 R3 R4 R5 R6)) := fun X => by subst hR1 hR2 hR3 hR4 hR5 hR6; exact au_mOf (z0 := 65536) (z1 := 0) (z2 := 0) (z3 := 65536) (z4 := 0) (z5 := 0) (by decide) (by decide) (by decide) (by decide) (by decide) (by decide) (by decide) (by decide) (by decide) (by decide) (by decide) (by decide) X
  suffices HS : Calls Tryz.prog 69 #[] w (Makes w (fun v w' => MN 1 w' v R1 R2 R3 R4 R5 R6)) by
    subst hR6 hR5 hR4 hR3 hR2 hR1; simpa only [show mkRat 65536 65536 = 1 by decide +kernel, show mkRat 0 65536 = 0 by decide +kernel, show mkRat 0 64 = 0 by decide +kernel] using HS
  clear hR1 hR2 hR3 hR4 hR5 hR6
  go_enter Tryz.func69, Tryz.ntmps69
  go_upto_region 1 with fail
  obtain ⟨hXR, hbw⟩ := boxes1 w (.cells #[.bool false, .slice none 0 0, .slice none 0 0, .bool false, .slice none 0 0, .slice none 0 0, .bool false, .slice none 0 0, .slice none 0 0, .bool false, .slice none 0 0, .slice none 0 0, .bool false, .slice none 0 0, .slice none 0 0, .bool false, .slice none 0 0, .slice none 0 0] 72)
  obtain ⟨W, hW⟩ : ∃ W, w.alloc (.cells #[.bool false, .slice none 0 0, .slice none 0 0, .bool false, .slice none 0 0, .slice none 0 0, .bool false, .slice none 0 0, .slice none 0 0, .bool false, .slice none 0 0, .slice none 0 0, .bool false, .slice none 0 0, .slice none 0 0, .bool false, .slice none 0 0, .slice none 0 0] 72) = W := ⟨_, rfl⟩
  rw [hW] at hXR hbw ⊢
  obtain ⟨XR, eXR⟩ : ∃ X, w.heap.size = X := ⟨_, rfl⟩
  rw [eXR]
  rw [eXR] at hXR
  have HXR := Lib.hid hXR
  have HBW := Lib.hid hbw
  have HGEXR : Hid (w.heap.size ≤ XR) := by unfold Hid; omega
  clear hW hbw hXR eXR
  refine line_region 2 [[], [0]] [.is (.agg #[.int .i64 65536, .int .i64 0, .int .i64 0, .int .i64 65536, .int .i64 0, .int .i64 0]), .has (fun v w => MN 1 w v R1 R2 R3 R4 R5 R6)] rfl rfl (by decide) (by simp only [Steady]; exact ⟨fun _ _ _ h hb => h.bel hb, trivial⟩) ?_
  simp only [List.take_succ_cons, List.take_zero, List.drop_succ_cons, List.drop_zero]
  refine fV (by rfl) (by intro w1 hw1 hk1; go_simp) ?_
  simp only [Act.put, sA, sB, sC]
  refine fH (by rfl) (by intro w1 hw1 hk1; exact HC1_1.out _) (by intro; go_simp) (fun v1 => ?_)
  simp only [Act.put, sA, sB, sC]
  intro W1 hW1 hk1
  obtain ⟨g1, -⟩ := hk1
  obtain ⟨sr1_1x1, pr1_1x1, kr1_1x1, cr1_1x1, qr1_1x1, jr1_1x1, dr1_1x1, sr1_1x2, pr1_1x2, kr1_1x2, cr1_1x2, qr1_1x2, jr1_1x2, dr1_1x2, sr1_1x3, pr1_1x3, kr1_1x3, cr1_1x3, qr1_1x3, jr1_1x3, dr1_1x3, sr1_1x4, pr1_1x4, kr1_1x4, cr1_1x4, qr1_1x4, jr1_1x4, dr1_1x4, sr1_1x5, pr1_1x5, kr1_1x5, cr1_1x5, qr1_1x5, jr1_1x5, dr1_1x5, sr1_1x6, pr1_1x6, kr1_1x6, cr1_1x6, qr1_1x6, jr1_1x6, dr1_1x6, rfl, g1_1, g1_2, g1_3, g1_4, g1_5, g1_6⟩ := g1.parts
  have HV := Lib.hid g1
  have hfb := Lib.hid (HBW.out.trans hW1)
  have hhX := hW1.heap HXR.out
  have HHX := Lib.hid hhX
  clear hhX hW1 g1
  have ht := stoW (w := w) (t := 72) [.bool sr1_1x1, .slice pr1_1x1 kr1_1x1 cr1_1x1, .slice qr1_1x1 jr1_1x1 dr1_1x1, .bool sr1_1x2, .slice pr1_1x2 kr1_1x2 cr1_1x2, .slice qr1_1x2 jr1_1x2 dr1_1x2, .bool sr1_1x3, .slice pr1_1x3 kr1_1x3 cr1_1x3, .slice qr1_1x3 jr1_1x3 dr1_1x3, .bool sr1_1x4, .slice pr1_1x4 kr1_1x4 cr1_1x4, .slice qr1_1x4 jr1_1x4 dr1_1x4, .bool sr1_1x5, .slice pr1_1x5 kr1_1x5 cr1_1x5, .slice qr1_1x5 jr1_1x5 dr1_1x5, .bool sr1_1x6, .slice pr1_1x6 kr1_1x6 cr1_1x6, .slice qr1_1x6 jr1_1x6 dr1_1x6] HHX.out hfb.out rfl rfl HGEXR.out
  refine lt_store rfl rfl rfl rfl HHX.out rfl (by kernel_rfl) rfl rfl ?_
  generalize hWR : World.setCells _ _ _ _ = WR
  go_wp2
  rw [hWR] at ht
  exact bodyPost_ret (results_cell_row Tryz.results69 _ _ XR _ _ _ _ rfl ht.heap Tryz.underlying72 rfl (by kernel_rfl)) rfl ⟨_, rfl, ht.bel, HV.out.lim ht.lim⟩
end Go.Proofs.YtafmfnpjhhaikaaGreatDoor
