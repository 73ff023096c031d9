/-
  mat.Same (printed by gen_mae.py).
-/
import Derived.Test.YtafmfnpjhhaikaaGreatDoorZba
namespace Go.Proofs.YtafmfnpjhhaikaaGreatDoor
open Go.RowKit Go.Shelf

set_option maxHeartbeats 4000000 in
set_option maxRecDepth 100000 in
theorem au_me0 {w : World} {m : Value} {am bm cm dm em fm : Rat} {nm : Nat} (hm : MS nm w m am bm cm dm em fm) (hl : 1 * (nm) + 1 < LimK) : Calls Tryz.prog 151 #[m] w (Makes w fun v w' => RS nm w' v am) := by
  have HLB := Lib.hid hl
  clear hl
  obtain ⟨sm1, pm1, km1, cm1, qm1, jm1, dm1, sm2, pm2, km2, cm2, qm2, jm2, dm2, sm3, pm3, km3, cm3, qm3, jm3, dm3, sm4, pm4, km4, cm4, qm4, jm4, dm4, sm5, pm5, km5, cm5, qm5, jm5, dm5, sm6, pm6, km6, cm6, qm6, jm6, dm6, rfl, hm1, hm2, hm3, hm4, hm5, hm6⟩ := hm.parts
  have HPm := Lib.hid hm
  have HPm1 := Lib.hid hm1
  have HPm2 := Lib.hid hm2
  have HPm3 := Lib.hid hm3
  have HPm4 := Lib.hid hm4
  have HPm5 := Lib.hid hm5
  have HPm6 := Lib.hid hm6
  clear hm hm1 hm2 hm3 hm4 hm5 hm6
  go_enter Tryz.func151, Tryz.ntmps151
  go_upto_region 1 with fail
  obtain ⟨hXp0, hXR, hbw⟩ := boxes2 w (.cells #[.bool sm1, .slice pm1 km1 cm1, .slice qm1 jm1 dm1, .bool sm2, .slice pm2 km2 cm2, .slice qm2 jm2 dm2, .bool sm3, .slice pm3 km3 cm3, .slice qm3 jm3 dm3, .bool sm4, .slice pm4 km4 cm4, .slice qm4 jm4 dm4, .bool sm5, .slice pm5 km5 cm5, .slice qm5 jm5 dm5, .bool sm6, .slice pm6 km6 cm6, .slice qm6 jm6 dm6] 72) (.cells #[.bool false, .slice none 0 0, .slice none 0 0] 26)
  obtain ⟨W, hW⟩ : ∃ W, (w.alloc (.cells #[.bool sm1, .slice pm1 km1 cm1, .slice qm1 jm1 dm1, .bool sm2, .slice pm2 km2 cm2, .slice qm2 jm2 dm2, .bool sm3, .slice pm3 km3 cm3, .slice qm3 jm3 dm3, .bool sm4, .slice pm4 km4 cm4, .slice qm4 jm4 dm4, .bool sm5, .slice pm5 km5 cm5, .slice qm5 jm5 dm5, .bool sm6, .slice pm6 km6 cm6, .slice qm6 jm6 dm6] 72)).alloc (.cells #[.bool false, .slice none 0 0, .slice none 0 0] 26) = W := ⟨_, rfl⟩
  rw [hW] at hXp0 hXR hbw ⊢
  obtain ⟨Xp0, eXp0⟩ : ∃ X, w.heap.size = X := ⟨_, rfl⟩
  obtain ⟨XR, eXR⟩ : ∃ X, Xp0 + 1 = X := ⟨_, rfl⟩
  rw [eXp0, eXR]
  rw [eXp0] at hXp0 hXR
  rw [eXR] at hXR
  have HXp0 := Lib.hid hXp0
  have HXR := Lib.hid hXR
  have HBW := Lib.hid hbw
  have HGEXp0 : Hid (w.heap.size ≤ Xp0) := by unfold Hid; omega
  have HGEXR : Hid (w.heap.size ≤ XR) := by unfold Hid; omega
  have HLT : Hid (Xp0 < XR) := by unfold Hid; omega
  clear hW hbw hXp0 hXR eXp0 eXR
  refine line_region 2 [[], [0]] [.is (.pointer (some ⟨Xp0, 0, none⟩)), .is (.agg #[.bool sm1, .slice pm1 km1 cm1, .slice qm1 jm1 dm1])] rfl rfl (by decide) (by simp only [Steady]) ?_
  simp only [List.take_succ_cons, List.take_zero, List.drop_succ_cons, List.drop_zero]
  refine fV (by rfl) (by intro w1 hw1 hk1; go_simp) ?_
  simp only [Act.put, sA, sB, sC]
  refine fV (by rfl) (fun w1 hw1 _ => load_at rfl rfl (hw1.heap HXp0.out) rfl Tryz.underlying26 rfl (by kernel_rfl)) ?_
  simp only [Act.put, sA, sB, sC]
  intro W1 hW1 hk1
  have HV := Lib.hid (HPm1.out.bel (HBW.out.trans hW1))
  have hfb := Lib.hid (HBW.out.trans hW1)
  have hhX := hW1.heap HXR.out
  have HHX := Lib.hid hhX
  clear hhX hW1
  have ht := stoW (w := w) (t := 26) [.bool sm1, .slice pm1 km1 cm1, .slice qm1 jm1 dm1] HHX.out hfb.out rfl rfl HGEXR.out
  refine lt_store rfl rfl rfl rfl HHX.out rfl (by kernel_rfl) rfl rfl ?_
  generalize hWR : World.setCells _ _ _ _ = WR
  go_wp2
  rw [hWR] at ht
  exact bodyPost_ret (results_cell_row Tryz.results151 _ _ XR _ _ _ _ rfl ht.heap Tryz.underlying26 rfl (by kernel_rfl)) rfl ⟨_, rfl, ht.bel, HV.out.lim ht.lim⟩
set_option maxHeartbeats 4000000 in
set_option maxRecDepth 100000 in
theorem au_me1 {w : World} {m : Value} {am bm cm dm em fm : Rat} {nm : Nat} (hm : MS nm w m am bm cm dm em fm) (hl : 1 * (nm) + 1 < LimK) : Calls Tryz.prog 152 #[m] w (Makes w fun v w' => RS nm w' v bm) := by
  have HLB := Lib.hid hl
  clear hl
  obtain ⟨sm1, pm1, km1, cm1, qm1, jm1, dm1, sm2, pm2, km2, cm2, qm2, jm2, dm2, sm3, pm3, km3, cm3, qm3, jm3, dm3, sm4, pm4, km4, cm4, qm4, jm4, dm4, sm5, pm5, km5, cm5, qm5, jm5, dm5, sm6, pm6, km6, cm6, qm6, jm6, dm6, rfl, hm1, hm2, hm3, hm4, hm5, hm6⟩ := hm.parts
  have HPm := Lib.hid hm
  have HPm1 := Lib.hid hm1
  have HPm2 := Lib.hid hm2
  have HPm3 := Lib.hid hm3
  have HPm4 := Lib.hid hm4
  have HPm5 := Lib.hid hm5
  have HPm6 := Lib.hid hm6
  clear hm hm1 hm2 hm3 hm4 hm5 hm6
  go_enter Tryz.func152, Tryz.ntmps152
  go_upto_region 1 with fail
  obtain ⟨hXp0, hXR, hbw⟩ := boxes2 w (.cells #[.bool sm1, .slice pm1 km1 cm1, .slice qm1 jm1 dm1, .bool sm2, .slice pm2 km2 cm2, .slice qm2 jm2 dm2, .bool sm3, .slice pm3 km3 cm3, .slice qm3 jm3 dm3, .bool sm4, .slice pm4 km4 cm4, .slice qm4 jm4 dm4, .bool sm5, .slice pm5 km5 cm5, .slice qm5 jm5 dm5, .bool sm6, .slice pm6 km6 cm6, .slice qm6 jm6 dm6] 72) (.cells #[.bool false, .slice none 0 0, .slice none 0 0] 26)
  obtain ⟨W, hW⟩ : ∃ W, (w.alloc (.cells #[.bool sm1, .slice pm1 km1 cm1, .slice qm1 jm1 dm1, .bool sm2, .slice pm2 km2 cm2, .slice qm2 jm2 dm2, .bool sm3, .slice pm3 km3 cm3, .slice qm3 jm3 dm3, .bool sm4, .slice pm4 km4 cm4, .slice qm4 jm4 dm4, .bool sm5, .slice pm5 km5 cm5, .slice qm5 jm5 dm5, .bool sm6, .slice pm6 km6 cm6, .slice qm6 jm6 dm6] 72)).alloc (.cells #[.bool false, .slice none 0 0, .slice none 0 0] 26) = W := ⟨_, rfl⟩
  rw [hW] at hXp0 hXR hbw ⊢
  obtain ⟨Xp0, eXp0⟩ : ∃ X, w.heap.size = X := ⟨_, rfl⟩
  obtain ⟨XR, eXR⟩ : ∃ X, Xp0 + 1 = X := ⟨_, rfl⟩
  rw [eXp0, eXR]
  rw [eXp0] at hXp0 hXR
  rw [eXR] at hXR
  have HXp0 := Lib.hid hXp0
  have HXR := Lib.hid hXR
  have HBW := Lib.hid hbw
  have HGEXp0 : Hid (w.heap.size ≤ Xp0) := by unfold Hid; omega
  have HGEXR : Hid (w.heap.size ≤ XR) := by unfold Hid; omega
  have HLT : Hid (Xp0 < XR) := by unfold Hid; omega
  clear hW hbw hXp0 hXR eXp0 eXR
  refine line_region 2 [[], [0]] [.is (.pointer (some ⟨Xp0, 3, none⟩)), .is (.agg #[.bool sm2, .slice pm2 km2 cm2, .slice qm2 jm2 dm2])] rfl rfl (by decide) (by simp only [Steady]) ?_
  simp only [List.take_succ_cons, List.take_zero, List.drop_succ_cons, List.drop_zero]
  refine fV (by rfl) (by intro w1 hw1 hk1; go_simp) ?_
  simp only [Act.put, sA, sB, sC]
  refine fV (by rfl) (fun w1 hw1 _ => load_at rfl rfl (hw1.heap HXp0.out) rfl Tryz.underlying26 rfl (by kernel_rfl)) ?_
  simp only [Act.put, sA, sB, sC]
  intro W1 hW1 hk1
  have HV := Lib.hid (HPm2.out.bel (HBW.out.trans hW1))
  have hfb := Lib.hid (HBW.out.trans hW1)
  have hhX := hW1.heap HXR.out
  have HHX := Lib.hid hhX
  clear hhX hW1
  have ht := stoW (w := w) (t := 26) [.bool sm2, .slice pm2 km2 cm2, .slice qm2 jm2 dm2] HHX.out hfb.out rfl rfl HGEXR.out
  refine lt_store rfl rfl rfl rfl HHX.out rfl (by kernel_rfl) rfl rfl ?_
  generalize hWR : World.setCells _ _ _ _ = WR
  go_wp2
  rw [hWR] at ht
  exact bodyPost_ret (results_cell_row Tryz.results152 _ _ XR _ _ _ _ rfl ht.heap Tryz.underlying26 rfl (by kernel_rfl)) rfl ⟨_, rfl, ht.bel, HV.out.lim ht.lim⟩
set_option maxHeartbeats 4000000 in
set_option maxRecDepth 100000 in
theorem au_me2 {w : World} {m : Value} {am bm cm dm em fm : Rat} {nm : Nat} (hm : MS nm w m am bm cm dm em fm) (hl : 1 * (nm) + 1 < LimK) : Calls Tryz.prog 153 #[m] w (Makes w fun v w' => RS nm w' v cm) := by
  have HLB := Lib.hid hl
  clear hl
  obtain ⟨sm1, pm1, km1, cm1, qm1, jm1, dm1, sm2, pm2, km2, cm2, qm2, jm2, dm2, sm3, pm3, km3, cm3, qm3, jm3, dm3, sm4, pm4, km4, cm4, qm4, jm4, dm4, sm5, pm5, km5, cm5, qm5, jm5, dm5, sm6, pm6, km6, cm6, qm6, jm6, dm6, rfl, hm1, hm2, hm3, hm4, hm5, hm6⟩ := hm.parts
  have HPm := Lib.hid hm
  have HPm1 := Lib.hid hm1
  have HPm2 := Lib.hid hm2
  have HPm3 := Lib.hid hm3
  have HPm4 := Lib.hid hm4
  have HPm5 := Lib.hid hm5
  have HPm6 := Lib.hid hm6
  clear hm hm1 hm2 hm3 hm4 hm5 hm6
  go_enter Tryz.func153, Tryz.ntmps153
  go_upto_region 1 with fail
  obtain ⟨hXp0, hXR, hbw⟩ := boxes2 w (.cells #[.bool sm1, .slice pm1 km1 cm1, .slice qm1 jm1 dm1, .bool sm2, .slice pm2 km2 cm2, .slice qm2 jm2 dm2, .bool sm3, .slice pm3 km3 cm3, .slice qm3 jm3 dm3, .bool sm4, .slice pm4 km4 cm4, .slice qm4 jm4 dm4, .bool sm5, .slice pm5 km5 cm5, .slice qm5 jm5 dm5, .bool sm6, .slice pm6 km6 cm6, .slice qm6 jm6 dm6] 72) (.cells #[.bool false, .slice none 0 0, .slice none 0 0] 26)
  obtain ⟨W, hW⟩ : ∃ W, (w.alloc (.cells #[.bool sm1, .slice pm1 km1 cm1, .slice qm1 jm1 dm1, .bool sm2, .slice pm2 km2 cm2, .slice qm2 jm2 dm2, .bool sm3, .slice pm3 km3 cm3, .slice qm3 jm3 dm3, .bool sm4, .slice pm4 km4 cm4, .slice qm4 jm4 dm4, .bool sm5, .slice pm5 km5 cm5, .slice qm5 jm5 dm5, .bool sm6, .slice pm6 km6 cm6, .slice qm6 jm6 dm6] 72)).alloc (.cells #[.bool false, .slice none 0 0, .slice none 0 0] 26) = W := ⟨_, rfl⟩
  rw [hW] at hXp0 hXR hbw ⊢
  obtain ⟨Xp0, eXp0⟩ : ∃ X, w.heap.size = X := ⟨_, rfl⟩
  obtain ⟨XR, eXR⟩ : ∃ X, Xp0 + 1 = X := ⟨_, rfl⟩
  rw [eXp0, eXR]
  rw [eXp0] at hXp0 hXR
  rw [eXR] at hXR
  have HXp0 := Lib.hid hXp0
  have HXR := Lib.hid hXR
  have HBW := Lib.hid hbw
  have HGEXp0 : Hid (w.heap.size ≤ Xp0) := by unfold Hid; omega
  have HGEXR : Hid (w.heap.size ≤ XR) := by unfold Hid; omega
  have HLT : Hid (Xp0 < XR) := by unfold Hid; omega
  clear hW hbw hXp0 hXR eXp0 eXR
  refine line_region 2 [[], [0]] [.is (.pointer (some ⟨Xp0, 6, none⟩)), .is (.agg #[.bool sm3, .slice pm3 km3 cm3, .slice qm3 jm3 dm3])] rfl rfl (by decide) (by simp only [Steady]) ?_
  simp only [List.take_succ_cons, List.take_zero, List.drop_succ_cons, List.drop_zero]
  refine fV (by rfl) (by intro w1 hw1 hk1; go_simp) ?_
  simp only [Act.put, sA, sB, sC]
  refine fV (by rfl) (fun w1 hw1 _ => load_at rfl rfl (hw1.heap HXp0.out) rfl Tryz.underlying26 rfl (by kernel_rfl)) ?_
  simp only [Act.put, sA, sB, sC]
  intro W1 hW1 hk1
  have HV := Lib.hid (HPm3.out.bel (HBW.out.trans hW1))
  have hfb := Lib.hid (HBW.out.trans hW1)
  have hhX := hW1.heap HXR.out
  have HHX := Lib.hid hhX
  clear hhX hW1
  have ht := stoW (w := w) (t := 26) [.bool sm3, .slice pm3 km3 cm3, .slice qm3 jm3 dm3] HHX.out hfb.out rfl rfl HGEXR.out
  refine lt_store rfl rfl rfl rfl HHX.out rfl (by kernel_rfl) rfl rfl ?_
  generalize hWR : World.setCells _ _ _ _ = WR
  go_wp2
  rw [hWR] at ht
  exact bodyPost_ret (results_cell_row Tryz.results153 _ _ XR _ _ _ _ rfl ht.heap Tryz.underlying26 rfl (by kernel_rfl)) rfl ⟨_, rfl, ht.bel, HV.out.lim ht.lim⟩
set_option maxHeartbeats 4000000 in
set_option maxRecDepth 100000 in
theorem au_me3 {w : World} {m : Value} {am bm cm dm em fm : Rat} {nm : Nat} (hm : MS nm w m am bm cm dm em fm) (hl : 1 * (nm) + 1 < LimK) : Calls Tryz.prog 154 #[m] w (Makes w fun v w' => RS nm w' v dm) := by
  have HLB := Lib.hid hl
  clear hl
  obtain ⟨sm1, pm1, km1, cm1, qm1, jm1, dm1, sm2, pm2, km2, cm2, qm2, jm2, dm2, sm3, pm3, km3, cm3, qm3, jm3, dm3, sm4, pm4, km4, cm4, qm4, jm4, dm4, sm5, pm5, km5, cm5, qm5, jm5, dm5, sm6, pm6, km6, cm6, qm6, jm6, dm6, rfl, hm1, hm2, hm3, hm4, hm5, hm6⟩ := hm.parts
  have HPm := Lib.hid hm
  have HPm1 := Lib.hid hm1
  have HPm2 := Lib.hid hm2
  have HPm3 := Lib.hid hm3
  have HPm4 := Lib.hid hm4
  have HPm5 := Lib.hid hm5
  have HPm6 := Lib.hid hm6
  clear hm hm1 hm2 hm3 hm4 hm5 hm6
  go_enter Tryz.func154, Tryz.ntmps154
  go_upto_region 1 with fail
  obtain ⟨hXp0, hXR, hbw⟩ := boxes2 w (.cells #[.bool sm1, .slice pm1 km1 cm1, .slice qm1 jm1 dm1, .bool sm2, .slice pm2 km2 cm2, .slice qm2 jm2 dm2, .bool sm3, .slice pm3 km3 cm3, .slice qm3 jm3 dm3, .bool sm4, .slice pm4 km4 cm4, .slice qm4 jm4 dm4, .bool sm5, .slice pm5 km5 cm5, .slice qm5 jm5 dm5, .bool sm6, .slice pm6 km6 cm6, .slice qm6 jm6 dm6] 72) (.cells #[.bool false, .slice none 0 0, .slice none 0 0] 26)
  obtain ⟨W, hW⟩ : ∃ W, (w.alloc (.cells #[.bool sm1, .slice pm1 km1 cm1, .slice qm1 jm1 dm1, .bool sm2, .slice pm2 km2 cm2, .slice qm2 jm2 dm2, .bool sm3, .slice pm3 km3 cm3, .slice qm3 jm3 dm3, .bool sm4, .slice pm4 km4 cm4, .slice qm4 jm4 dm4, .bool sm5, .slice pm5 km5 cm5, .slice qm5 jm5 dm5, .bool sm6, .slice pm6 km6 cm6, .slice qm6 jm6 dm6] 72)).alloc (.cells #[.bool false, .slice none 0 0, .slice none 0 0] 26) = W := ⟨_, rfl⟩
  rw [hW] at hXp0 hXR hbw ⊢
  obtain ⟨Xp0, eXp0⟩ : ∃ X, w.heap.size = X := ⟨_, rfl⟩
  obtain ⟨XR, eXR⟩ : ∃ X, Xp0 + 1 = X := ⟨_, rfl⟩
  rw [eXp0, eXR]
  rw [eXp0] at hXp0 hXR
  rw [eXR] at hXR
  have HXp0 := Lib.hid hXp0
  have HXR := Lib.hid hXR
  have HBW := Lib.hid hbw
  have HGEXp0 : Hid (w.heap.size ≤ Xp0) := by unfold Hid; omega
  have HGEXR : Hid (w.heap.size ≤ XR) := by unfold Hid; omega
  have HLT : Hid (Xp0 < XR) := by unfold Hid; omega
  clear hW hbw hXp0 hXR eXp0 eXR
  refine line_region 2 [[], [0]] [.is (.pointer (some ⟨Xp0, 9, none⟩)), .is (.agg #[.bool sm4, .slice pm4 km4 cm4, .slice qm4 jm4 dm4])] rfl rfl (by decide) (by simp only [Steady]) ?_
  simp only [List.take_succ_cons, List.take_zero, List.drop_succ_cons, List.drop_zero]
  refine fV (by rfl) (by intro w1 hw1 hk1; go_simp) ?_
  simp only [Act.put, sA, sB, sC]
  refine fV (by rfl) (fun w1 hw1 _ => load_at rfl rfl (hw1.heap HXp0.out) rfl Tryz.underlying26 rfl (by kernel_rfl)) ?_
  simp only [Act.put, sA, sB, sC]
  intro W1 hW1 hk1
  have HV := Lib.hid (HPm4.out.bel (HBW.out.trans hW1))
  have hfb := Lib.hid (HBW.out.trans hW1)
  have hhX := hW1.heap HXR.out
  have HHX := Lib.hid hhX
  clear hhX hW1
  have ht := stoW (w := w) (t := 26) [.bool sm4, .slice pm4 km4 cm4, .slice qm4 jm4 dm4] HHX.out hfb.out rfl rfl HGEXR.out
  refine lt_store rfl rfl rfl rfl HHX.out rfl (by kernel_rfl) rfl rfl ?_
  generalize hWR : World.setCells _ _ _ _ = WR
  go_wp2
  rw [hWR] at ht
  exact bodyPost_ret (results_cell_row Tryz.results154 _ _ XR _ _ _ _ rfl ht.heap Tryz.underlying26 rfl (by kernel_rfl)) rfl ⟨_, rfl, ht.bel, HV.out.lim ht.lim⟩
set_option maxHeartbeats 4000000 in
set_option maxRecDepth 100000 in
theorem au_me4 {w : World} {m : Value} {am bm cm dm em fm : Rat} {nm : Nat} (hm : MS nm w m am bm cm dm em fm) (hl : 1 * (nm) + 1 < LimK) : Calls Tryz.prog 155 #[m] w (Makes w fun v w' => RS nm w' v em) := by
  have HLB := Lib.hid hl
  clear hl
  obtain ⟨sm1, pm1, km1, cm1, qm1, jm1, dm1, sm2, pm2, km2, cm2, qm2, jm2, dm2, sm3, pm3, km3, cm3, qm3, jm3, dm3, sm4, pm4, km4, cm4, qm4, jm4, dm4, sm5, pm5, km5, cm5, qm5, jm5, dm5, sm6, pm6, km6, cm6, qm6, jm6, dm6, rfl, hm1, hm2, hm3, hm4, hm5, hm6⟩ := hm.parts
  have HPm := Lib.hid hm
  have HPm1 := Lib.hid hm1
  have HPm2 := Lib.hid hm2
  have HPm3 := Lib.hid hm3
  have HPm4 := Lib.hid hm4
  have HPm5 := Lib.hid hm5
  have HPm6 := Lib.hid hm6
  clear hm hm1 hm2 hm3 hm4 hm5 hm6
  go_enter Tryz.func155, Tryz.ntmps155
  go_upto_region 1 with fail
  obtain ⟨hXp0, hXR, hbw⟩ := boxes2 w (.cells #[.bool sm1, .slice pm1 km1 cm1, .slice qm1 jm1 dm1, .bool sm2, .slice pm2 km2 cm2, .slice qm2 jm2 dm2, .bool sm3, .slice pm3 km3 cm3, .slice qm3 jm3 dm3, .bool sm4, .slice pm4 km4 cm4, .slice qm4 jm4 dm4, .bool sm5, .slice pm5 km5 cm5, .slice qm5 jm5 dm5, .bool sm6, .slice pm6 km6 cm6, .slice qm6 jm6 dm6] 72) (.cells #[.bool false, .slice none 0 0, .slice none 0 0] 26)
  obtain ⟨W, hW⟩ : ∃ W, (w.alloc (.cells #[.bool sm1, .slice pm1 km1 cm1, .slice qm1 jm1 dm1, .bool sm2, .slice pm2 km2 cm2, .slice qm2 jm2 dm2, .bool sm3, .slice pm3 km3 cm3, .slice qm3 jm3 dm3, .bool sm4, .slice pm4 km4 cm4, .slice qm4 jm4 dm4, .bool sm5, .slice pm5 km5 cm5, .slice qm5 jm5 dm5, .bool sm6, .slice pm6 km6 cm6, .slice qm6 jm6 dm6] 72)).alloc (.cells #[.bool false, .slice none 0 0, .slice none 0 0] 26) = W := ⟨_, rfl⟩
  rw [hW] at hXp0 hXR hbw ⊢
  obtain ⟨Xp0, eXp0⟩ : ∃ X, w.heap.size = X := ⟨_, rfl⟩
  obtain ⟨XR, eXR⟩ : ∃ X, Xp0 + 1 = X := ⟨_, rfl⟩
  rw [eXp0, eXR]
  rw [eXp0] at hXp0 hXR
  rw [eXR] at hXR
  have HXp0 := Lib.hid hXp0
  have HXR := Lib.hid hXR
  have HBW := Lib.hid hbw
  have HGEXp0 : Hid (w.heap.size ≤ Xp0) := by unfold Hid; omega
  have HGEXR : Hid (w.heap.size ≤ XR) := by unfold Hid; omega
  have HLT : Hid (Xp0 < XR) := by unfold Hid; omega
  clear hW hbw hXp0 hXR eXp0 eXR
  refine line_region 2 [[], [0]] [.is (.pointer (some ⟨Xp0, 12, none⟩)), .is (.agg #[.bool sm5, .slice pm5 km5 cm5, .slice qm5 jm5 dm5])] rfl rfl (by decide) (by simp only [Steady]) ?_
  simp only [List.take_succ_cons, List.take_zero, List.drop_succ_cons, List.drop_zero]
  refine fV (by rfl) (by intro w1 hw1 hk1; go_simp) ?_
  simp only [Act.put, sA, sB, sC]
  refine fV (by rfl) (fun w1 hw1 _ => load_at rfl rfl (hw1.heap HXp0.out) rfl Tryz.underlying26 rfl (by kernel_rfl)) ?_
  simp only [Act.put, sA, sB, sC]
  intro W1 hW1 hk1
  have HV := Lib.hid (HPm5.out.bel (HBW.out.trans hW1))
  have hfb := Lib.hid (HBW.out.trans hW1)
  have hhX := hW1.heap HXR.out
  have HHX := Lib.hid hhX
  clear hhX hW1
  have ht := stoW (w := w) (t := 26) [.bool sm5, .slice pm5 km5 cm5, .slice qm5 jm5 dm5] HHX.out hfb.out rfl rfl HGEXR.out
  refine lt_store rfl rfl rfl rfl HHX.out rfl (by kernel_rfl) rfl rfl ?_
  generalize hWR : World.setCells _ _ _ _ = WR
  go_wp2
  rw [hWR] at ht
  exact bodyPost_ret (results_cell_row Tryz.results155 _ _ XR _ _ _ _ rfl ht.heap Tryz.underlying26 rfl (by kernel_rfl)) rfl ⟨_, rfl, ht.bel, HV.out.lim ht.lim⟩
set_option maxHeartbeats 4000000 in
set_option maxRecDepth 100000 in
theorem au_me5 {w : World} {m : Value} {am bm cm dm em fm : Rat} {nm : Nat} (hm : MS nm w m am bm cm dm em fm) (hl : 1 * (nm) + 1 < LimK) : Calls Tryz.prog 156 #[m] w (Makes w fun v w' => RS nm w' v fm) := by
  have HLB := Lib.hid hl
  clear hl
  obtain ⟨sm1, pm1, km1, cm1, qm1, jm1, dm1, sm2, pm2, km2, cm2, qm2, jm2, dm2, sm3, pm3, km3, cm3, qm3, jm3, dm3, sm4, pm4, km4, cm4, qm4, jm4, dm4, sm5, pm5, km5, cm5, qm5, jm5, dm5, sm6, pm6, km6, cm6, qm6, jm6, dm6, rfl, hm1, hm2, hm3, hm4, hm5, hm6⟩ := hm.parts
  have HPm := Lib.hid hm
  have HPm1 := Lib.hid hm1
  have HPm2 := Lib.hid hm2
  have HPm3 := Lib.hid hm3
  have HPm4 := Lib.hid hm4
  have HPm5 := Lib.hid hm5
  have HPm6 := Lib.hid hm6
  clear hm hm1 hm2 hm3 hm4 hm5 hm6
  go_enter Tryz.func156, Tryz.ntmps156
  go_upto_region 1 with fail
  obtain ⟨hXp0, hXR, hbw⟩ := boxes2 w (.cells #[.bool sm1, .slice pm1 km1 cm1, .slice qm1 jm1 dm1, .bool sm2, .slice pm2 km2 cm2, .slice qm2 jm2 dm2, .bool sm3, .slice pm3 km3 cm3, .slice qm3 jm3 dm3, .bool sm4, .slice pm4 km4 cm4, .slice qm4 jm4 dm4, .bool sm5, .slice pm5 km5 cm5, .slice qm5 jm5 dm5, .bool sm6, .slice pm6 km6 cm6, .slice qm6 jm6 dm6] 72) (.cells #[.bool false, .slice none 0 0, .slice none 0 0] 26)
  obtain ⟨W, hW⟩ : ∃ W, (w.alloc (.cells #[.bool sm1, .slice pm1 km1 cm1, .slice qm1 jm1 dm1, .bool sm2, .slice pm2 km2 cm2, .slice qm2 jm2 dm2, .bool sm3, .slice pm3 km3 cm3, .slice qm3 jm3 dm3, .bool sm4, .slice pm4 km4 cm4, .slice qm4 jm4 dm4, .bool sm5, .slice pm5 km5 cm5, .slice qm5 jm5 dm5, .bool sm6, .slice pm6 km6 cm6, .slice qm6 jm6 dm6] 72)).alloc (.cells #[.bool false, .slice none 0 0, .slice none 0 0] 26) = W := ⟨_, rfl⟩
  rw [hW] at hXp0 hXR hbw ⊢
  obtain ⟨Xp0, eXp0⟩ : ∃ X, w.heap.size = X := ⟨_, rfl⟩
  obtain ⟨XR, eXR⟩ : ∃ X, Xp0 + 1 = X := ⟨_, rfl⟩
  rw [eXp0, eXR]
  rw [eXp0] at hXp0 hXR
  rw [eXR] at hXR
  have HXp0 := Lib.hid hXp0
  have HXR := Lib.hid hXR
  have HBW := Lib.hid hbw
  have HGEXp0 : Hid (w.heap.size ≤ Xp0) := by unfold Hid; omega
  have HGEXR : Hid (w.heap.size ≤ XR) := by unfold Hid; omega
  have HLT : Hid (Xp0 < XR) := by unfold Hid; omega
  clear hW hbw hXp0 hXR eXp0 eXR
  refine line_region 2 [[], [0]] [.is (.pointer (some ⟨Xp0, 15, none⟩)), .is (.agg #[.bool sm6, .slice pm6 km6 cm6, .slice qm6 jm6 dm6])] rfl rfl (by decide) (by simp only [Steady]) ?_
  simp only [List.take_succ_cons, List.take_zero, List.drop_succ_cons, List.drop_zero]
  refine fV (by rfl) (by intro w1 hw1 hk1; go_simp) ?_
  simp only [Act.put, sA, sB, sC]
  refine fV (by rfl) (fun w1 hw1 _ => load_at rfl rfl (hw1.heap HXp0.out) rfl Tryz.underlying26 rfl (by kernel_rfl)) ?_
  simp only [Act.put, sA, sB, sC]
  intro W1 hW1 hk1
  have HV := Lib.hid (HPm6.out.bel (HBW.out.trans hW1))
  have hfb := Lib.hid (HBW.out.trans hW1)
  have hhX := hW1.heap HXR.out
  have HHX := Lib.hid hhX
  clear hhX hW1
  have ht := stoW (w := w) (t := 26) [.bool sm6, .slice pm6 km6 cm6, .slice qm6 jm6 dm6] HHX.out hfb.out rfl rfl HGEXR.out
  refine lt_store rfl rfl rfl rfl HHX.out rfl (by kernel_rfl) rfl rfl ?_
  generalize hWR : World.setCells _ _ _ _ = WR
  go_wp2
  rw [hWR] at ht
  exact bodyPost_ret (results_cell_row Tryz.results156 _ _ XR _ _ _ _ rfl ht.heap Tryz.underlying26 rfl (by kernel_rfl)) rfl ⟨_, rfl, ht.bel, HV.out.lim ht.lim⟩
/-- The list is there. -/
def EntList (b : Nat) (c0 c1 c2 : Value) (w : World) : Prop := ∃ L, w.heap[b]? = some (.cells #[c0, c1, c2, .slice (some ⟨L, 0, none⟩) 6 6] 146 (0, 0)) ∧ w.heap[L]? = some (.cells #[.func (.func 151) #[] #[], .func (.func 152) #[] #[], .func (.func 153) #[] #[], .func (.func 154) #[] #[], .func (.func 155) #[] #[], .func (.func 156) #[] #[]] 88 (0, 0))
set_option maxHeartbeats 2000000 in
set_option maxRecDepth 100000 in
theorem entFill_any (b : Nat) (c0 c1 c2 c3 : Value) (w : World) (hb : w.heap[b]? = some (.cells #[c0, c1, c2, c3] 146 (0, 0))) :
    Calls Tryz.prog 111 #[.pointer (some ⟨b, 0, none⟩)] w fun e w' => e = .returned (.tuple #[]) ∧ EntList b c0 c1 c2 w' ∧ w.grownBy w' (some b) := by
  have q3 : w.cell? ⟨b, 3, none⟩ = some c3 := (heap_cell hb 3).trans rfl
  have f3 : w.frozen? ⟨b, 3, none⟩ = false := heap_frozen hb 3
  have hlt := heap_lt hb
  have HB := Lib.hid hb
  clear hb
  go_enter Tryz.func111, Tryz.ntmps111
  go_wp2
  go_end0
  have hs : (w.setCell ⟨b, 3, none⟩ (.slice (some ⟨w.heap.size, 0, none⟩) 6 6)).heap.size = w.heap.size := by simp [World.setCell]
  have h4 : (w.setCell ⟨b, 3, none⟩ (.slice (some ⟨w.heap.size, 0, none⟩) 6 6)).heap[b]? = some (.cells #[c0, c1, c2, .slice (some ⟨w.heap.size, 0, none⟩) 6 6] 146 (0, 0)) := by
    simp [World.setCell, Array.getElem?_modify, HB.out]
  refine ⟨rfl, ⟨w.heap.size, heap_push_of h4 _, alloc_heap hs⟩, ?_⟩
  refine grown_trans ?_ (grown_alloc _ _ _)
  refine ⟨rfl, rfl, rfl, Nat.le_of_eq hs.symm, fun k _ hne => ?_⟩
  have : b ≠ k := fun e => hne (by rw [e])
  simp [World.setCell, Array.getElem?_modify, this]
theorem entOnce_any (W : World) : Calls Tryz.prog 110 #[.pointer (some ⟨W.heap.size, 0, none⟩), .func (.func 111) #[.pointer (some ⟨W.heap.size, 0, none⟩)] #[]] (W.alloc (.cells #[.int .u32 0, .int .i32 0, .int .u32 0, .slice none 0 0] 146)) fun e w' =>
    e = .returned (.tuple #[]) ∧ Bel W w' ∧ EntList W.heap.size (.int .u32 1) (.int .i32 0) (.int .u32 0) w' := by
  obtain ⟨b, hb⟩ : ∃ b, W.heap.size = b := ⟨_, rfl⟩
  have h0 : (W.alloc (.cells #[.int .u32 0, .int .i32 0, .int .u32 0, .slice none 0 0] 146)).heap[b]? = some (.cells #[.int .u32 0, .int .i32 0, .int .u32 0, .slice none 0 0] 146 (0, 0)) := alloc_heap hb
  have hbel : Bel W (W.alloc (.cells #[.int .u32 0, .int .i32 0, .int .u32 0, .slice none 0 0] 146)) := (Bel.refl W).alloc _
  rw [hb]
  generalize W.alloc (.cells #[.int .u32 0, .int .i32 0, .int .u32 0, .slice none 0 0] 146) = V at h0 hbel ⊢
  have h1 : (V.setCell ⟨b, 1, none⟩ (.int .i32 1)).heap[b]? = some (.cells #[.int .u32 0, .int .i32 1, .int .u32 0, .slice none 0 0] 146 (0, 0)) := by simp [World.setCell, Array.getElem?_modify, h0]
  have hb1 : Bel W (V.setCell ⟨b, 1, none⟩ (.int .i32 1)) := hbel.set (p := ⟨b, 1, none⟩) (Nat.le_of_eq hb) _
  refine (once_do b 111 V (fun w' => EntList b (.int .u32 0) (.int .i32 1) (.int .u32 0) w' ∧ Bel W w') ((heap_cell h0 0).trans rfl) ((heap_cell h0 1).trans rfl) (heap_frozen h0 0) (heap_frozen h0 1) (fun w => by kernel_rfl)
    ((entFill_any b _ _ _ _ _ h1).mono fun e w' ⟨he, hl, hg⟩ => ⟨he, hl, But.bel hb1 hg (fun k hk => by cases hk; omega)⟩) (fun w' ⟨⟨L, h2, _⟩, _⟩ => ⟨(heap_cell h2 0).trans rfl, (heap_cell h2 1).trans rfl, heap_frozen h2 0, heap_frozen h2 1⟩)).mono ?_
  rintro e w' ⟨rfl, w1, ⟨⟨L, h2, h3⟩, h5⟩, rfl⟩
  have hLb : L ≠ b := by rintro rfl; rw [h2] at h3; simp at h3
  refine ⟨rfl, (h5.drew.set (p := ⟨b, 0, none⟩) (Nat.le_of_eq hb) _).set (p := ⟨b, 1, none⟩) (Nat.le_of_eq hb) _, L, ?_, heap_other (heap_other (w := w1.drew) h3 (Ne.symm hLb) _) (Ne.symm hLb) _⟩
  have h6 : w1.drew.heap[b]? = some (.cells #[.int .u32 0, .int .i32 1, .int .u32 0, .slice (some ⟨L, 0, none⟩) 6 6] 146 (0, 0)) := h2
  simp [World.setCell, Array.getElem?_modify, h6]
set_option maxHeartbeats 4000000 in
set_option maxRecDepth 100000 in
theorem au_msame {w : World} {m n : Value} {a1 b1 c1 d1 e1 f1 a2 b2 c2 d2 e2 f2 : Rat} {i j : Nat} (hm : MS i w m a1 b1 c1 d1 e1 f1) (hn : MS j w n a2 b2 c2 d2 e2 f2) (hl : 4 * (i + j) + 4 < LimK) : Calls Tryz.prog 64 #[m, n] w (Makes w fun v _ => v = .bool (decide (a1 = a2 ∧ b1 = b2 ∧ c1 = c2 ∧ d1 = d2 ∧ e1 = e2 ∧ f1 = f2))) := by
  have HE0 : Hid (∀ X u, MS i X u a1 b1 c1 d1 e1 f1 → Calls Tryz.prog 151 #[u] X (Makes X fun v w' => RS i w' v a1)) := fun X u h => au_me0 (nm := i) h (by omega)
  have HF0 : Hid (∀ X u, MS j X u a2 b2 c2 d2 e2 f2 → Calls Tryz.prog 151 #[u] X (Makes X fun v w' => RS j w' v a2)) := fun X u h => au_me0 (nm := j) h (by omega)
  have HC0 : Hid (∀ X u v, RS i X u a1 → RS j X v a2 → Calls Tryz.prog 44 #[u, v] X (Makes X fun v _ => v = .int .i64 (cmpR a1 a2))) := fun X u v h1 h2 => mk_rcmp (i := i) (j := j) h1 h2 (by omega)
  have HE1 : Hid (∀ X u, MS i X u a1 b1 c1 d1 e1 f1 → Calls Tryz.prog 152 #[u] X (Makes X fun v w' => RS i w' v b1)) := fun X u h => au_me1 (nm := i) h (by omega)
  have HF1 : Hid (∀ X u, MS j X u a2 b2 c2 d2 e2 f2 → Calls Tryz.prog 152 #[u] X (Makes X fun v w' => RS j w' v b2)) := fun X u h => au_me1 (nm := j) h (by omega)
  have HC1 : Hid (∀ X u v, RS i X u b1 → RS j X v b2 → Calls Tryz.prog 44 #[u, v] X (Makes X fun v _ => v = .int .i64 (cmpR b1 b2))) := fun X u v h1 h2 => mk_rcmp (i := i) (j := j) h1 h2 (by omega)
  have HE2 : Hid (∀ X u, MS i X u a1 b1 c1 d1 e1 f1 → Calls Tryz.prog 153 #[u] X (Makes X fun v w' => RS i w' v c1)) := fun X u h => au_me2 (nm := i) h (by omega)
  have HF2 : Hid (∀ X u, MS j X u a2 b2 c2 d2 e2 f2 → Calls Tryz.prog 153 #[u] X (Makes X fun v w' => RS j w' v c2)) := fun X u h => au_me2 (nm := j) h (by omega)
  have HC2 : Hid (∀ X u v, RS i X u c1 → RS j X v c2 → Calls Tryz.prog 44 #[u, v] X (Makes X fun v _ => v = .int .i64 (cmpR c1 c2))) := fun X u v h1 h2 => mk_rcmp (i := i) (j := j) h1 h2 (by omega)
  have HE3 : Hid (∀ X u, MS i X u a1 b1 c1 d1 e1 f1 → Calls Tryz.prog 154 #[u] X (Makes X fun v w' => RS i w' v d1)) := fun X u h => au_me3 (nm := i) h (by omega)
  have HF3 : Hid (∀ X u, MS j X u a2 b2 c2 d2 e2 f2 → Calls Tryz.prog 154 #[u] X (Makes X fun v w' => RS j w' v d2)) := fun X u h => au_me3 (nm := j) h (by omega)
  have HC3 : Hid (∀ X u v, RS i X u d1 → RS j X v d2 → Calls Tryz.prog 44 #[u, v] X (Makes X fun v _ => v = .int .i64 (cmpR d1 d2))) := fun X u v h1 h2 => mk_rcmp (i := i) (j := j) h1 h2 (by omega)
  have HE4 : Hid (∀ X u, MS i X u a1 b1 c1 d1 e1 f1 → Calls Tryz.prog 155 #[u] X (Makes X fun v w' => RS i w' v e1)) := fun X u h => au_me4 (nm := i) h (by omega)
  have HF4 : Hid (∀ X u, MS j X u a2 b2 c2 d2 e2 f2 → Calls Tryz.prog 155 #[u] X (Makes X fun v w' => RS j w' v e2)) := fun X u h => au_me4 (nm := j) h (by omega)
  have HC4 : Hid (∀ X u v, RS i X u e1 → RS j X v e2 → Calls Tryz.prog 44 #[u, v] X (Makes X fun v _ => v = .int .i64 (cmpR e1 e2))) := fun X u v h1 h2 => mk_rcmp (i := i) (j := j) h1 h2 (by omega)
  have HE5 : Hid (∀ X u, MS i X u a1 b1 c1 d1 e1 f1 → Calls Tryz.prog 156 #[u] X (Makes X fun v w' => RS i w' v f1)) := fun X u h => au_me5 (nm := i) h (by omega)
  have HF5 : Hid (∀ X u, MS j X u a2 b2 c2 d2 e2 f2 → Calls Tryz.prog 156 #[u] X (Makes X fun v w' => RS j w' v f2)) := fun X u h => au_me5 (nm := j) h (by omega)
  have HC5 : Hid (∀ X u v, RS i X u f1 → RS j X v f2 → Calls Tryz.prog 44 #[u, v] X (Makes X fun v _ => v = .int .i64 (cmpR f1 f2))) := fun X u v h1 h2 => mk_rcmp (i := i) (j := j) h1 h2 (by omega)
  obtain ⟨sm1, pm1, km1, cm1, qm1, jm1, dm1, sm2, pm2, km2, cm2, qm2, jm2, dm2, sm3, pm3, km3, cm3, qm3, jm3, dm3, sm4, pm4, km4, cm4, qm4, jm4, dm4, sm5, pm5, km5, cm5, qm5, jm5, dm5, sm6, pm6, km6, cm6, qm6, jm6, dm6, rfl, -⟩ := hm.parts
  obtain ⟨sn1, pn1, kn1, cn1, qn1, jn1, dn1, sn2, pn2, kn2, cn2, qn2, jn2, dn2, sn3, pn3, kn3, cn3, qn3, jn3, dn3, sn4, pn4, kn4, cn4, qn4, jn4, dn4, sn5, pn5, kn5, cn5, qn5, jn5, dn5, sn6, pn6, kn6, cn6, qn6, jn6, dn6, rfl, -⟩ := hn.parts
  have HM := Lib.hid hm
  have HN := Lib.hid hn
  clear hm hn hl
  obtain ⟨DC, hDC⟩ : ∃ D, decide (a1 = a2 ∧ b1 = b2 ∧ c1 = c2 ∧ d1 = d2 ∧ e1 = e2 ∧ f1 = f2) = D := ⟨_, rfl⟩
  rw [hDC]
  have HDC := Lib.hid hDC
  clear hDC
  go_enter Tryz.func64, Tryz.ntmps64
  go_upto_region 1 with fail
  obtain ⟨hXm, hXn, hbw⟩ := boxes2 w (.cells #[.bool sm1, .slice pm1 km1 cm1, .slice qm1 jm1 dm1, .bool sm2, .slice pm2 km2 cm2, .slice qm2 jm2 dm2, .bool sm3, .slice pm3 km3 cm3, .slice qm3 jm3 dm3, .bool sm4, .slice pm4 km4 cm4, .slice qm4 jm4 dm4, .bool sm5, .slice pm5 km5 cm5, .slice qm5 jm5 dm5, .bool sm6, .slice pm6 km6 cm6, .slice qm6 jm6 dm6] 72) (.cells #[.bool sn1, .slice pn1 kn1 cn1, .slice qn1 jn1 dn1, .bool sn2, .slice pn2 kn2 cn2, .slice qn2 jn2 dn2, .bool sn3, .slice pn3 kn3 cn3, .slice qn3 jn3 dn3, .bool sn4, .slice pn4 kn4 cn4, .slice qn4 jn4 dn4, .bool sn5, .slice pn5 kn5 cn5, .slice qn5 jn5 dn5, .bool sn6, .slice pn6 kn6 cn6, .slice qn6 jn6 dn6] 72)
  obtain ⟨W, hW⟩ : ∃ W, (w.alloc (.cells #[.bool sm1, .slice pm1 km1 cm1, .slice qm1 jm1 dm1, .bool sm2, .slice pm2 km2 cm2, .slice qm2 jm2 dm2, .bool sm3, .slice pm3 km3 cm3, .slice qm3 jm3 dm3, .bool sm4, .slice pm4 km4 cm4, .slice qm4 jm4 dm4, .bool sm5, .slice pm5 km5 cm5, .slice qm5 jm5 dm5, .bool sm6, .slice pm6 km6 cm6, .slice qm6 jm6 dm6] 72)).alloc (.cells #[.bool sn1, .slice pn1 kn1 cn1, .slice qn1 jn1 dn1, .bool sn2, .slice pn2 kn2 cn2, .slice qn2 jn2 dn2, .bool sn3, .slice pn3 kn3 cn3, .slice qn3 jn3 dn3, .bool sn4, .slice pn4 kn4 cn4, .slice qn4 jn4 dn4, .bool sn5, .slice pn5 kn5 cn5, .slice qn5 jn5 dn5, .bool sn6, .slice pn6 kn6 cn6, .slice qn6 jn6 dn6] 72) = W := ⟨_, rfl⟩
  rw [hW] at hXm hXn hbw ⊢
  obtain ⟨Xm, eXm⟩ : ∃ X, w.heap.size = X := ⟨_, rfl⟩
  obtain ⟨Xn, eXn⟩ : ∃ X, Xm + 1 = X := ⟨_, rfl⟩
  rw [eXm, eXn]
  rw [eXm] at hXm hXn
  rw [eXn] at hXn
  have HXm := Lib.hid hXm
  have HXn := Lib.hid hXn
  have HBW := Lib.hid hbw
  have HGEXm : Hid (w.heap.size ≤ Xm) := by unfold Hid; omega
  have HGEXn : Hid (w.heap.size ≤ Xn) := by unfold Hid; omega
  have HLT : Hid (Xm < Xn) := by unfold Hid; omega
  clear hW hbw hXm hXn eXm eXn
  have HON := Lib.hid (entOnce_any W)
  have hmf : ∀ (fn : Fn) (first cap : Array Value) (w : World), (Instr.makeFunc fn first cap).run Tryz.prog w = .ok (.func fn first cap) w := fun _ _ _ _ => rfl
  go_upto_region 3 with (go_at_call 110; (with_reducible refine HON.out.mono ?_); rintro e w2 ⟨rfl, hb2, L, hx7, hL⟩; have HB2 := Lib.hid hb2; have HX7 := Lib.hid hx7; have HXL := Lib.hid hL; clear hb2 hx7 hL)
  obtain ⟨X5, hX5⟩ : ∃ X, W.heap.size = X := ⟨_, rfl⟩
  rw [hX5] at HX7 ⊢
  have q1 : w2.cell? ⟨X5, 3, none⟩ = some (.slice (some ⟨L, 0, none⟩) 6 6) := (heap_cell HX7.out 3).trans rfl
  have HMX := Lib.hid (HB2.out.heap HXm.out)
  have HNX := Lib.hid (HB2.out.heap HXn.out)
  have HBW2 := Lib.hid (HBW.out.trans HB2.out)
  clear hX5 HON hmf HXm HXn
  go_wp2
  go_loopg [14] 6 (fun gf s14 wx => ∃ k : Nat, s14 = .int .i64 (k : Int) ∧ k ≤ 6 ∧ 6 ≤ k + gf ∧ ((0 < k → a1 = a2) ∧ (1 < k → b1 = b2) ∧ (2 < k → c1 = c2) ∧ (3 < k → d1 = d2) ∧ (4 < k → e1 = e2) ∧ (5 < k → f1 = f2)) ∧ Bel w2 wx)
  case atStart => exact ⟨0, rfl, by omega, by omega, ⟨fun h => absurd h (by omega), fun h => absurd h (by omega), fun h => absurd h (by omega), fun h => absurd h (by omega), fun h => absurd h (by omega), fun h => absurd h (by omega)⟩, Bel.refl _⟩
  case round =>
    obtain ⟨k, rfl, hk, hkg, hup, hb⟩ := hrel
    have HUP := Lib.hid hup
    have HB := Lib.hid hb
    have hmx := Lib.hid (hb.heap HMX.out)
    have hnx := Lib.hid (hb.heap HNX.out)
    have HXM := Lib.hid (HM.out.bel (HBW2.out.trans hb))
    have HXN := Lib.hid (HN.out.bel (HBW2.out.trans hb))
    have hxl := hb.heap HXL.out
    clear hup hb
    by_cases hlt : k < 6
    · obtain ⟨gk', rfl⟩ : ∃ g, gk = g + 1 := ⟨gk - 1, by omega⟩
      match k, hlt with
      | 0, _ =>
        have c0 : wr.cell? ⟨L, 0, none⟩ = some (.func (.func 151) #[] #[]) := (heap_cell hxl 0).trans rfl
        clear hxl hlt
        have HCK := HC0
        obtain ⟨C, hC⟩ : ∃ C, cmpR a1 a2 = C := ⟨_, rfl⟩
        rw [hC] at HCK
        have HCC := Lib.hid hC
        go_upto_region 6 with fail
        clear c0
        by_cases hc0 : C = 0
        · have HQ := Lib.hid hc0
          clear hC hc0
          refine region_flow 8 [[], [], [0, 1], [], [], [3, 4], [2, 5], [6]] [.is (.func (.func 151) #[] #[]), .is (.agg #[.bool sm1, .slice pm1 km1 cm1, .slice qm1 jm1 dm1, .bool sm2, .slice pm2 km2 cm2, .slice qm2 jm2 dm2, .bool sm3, .slice pm3 km3 cm3, .slice qm3 jm3 dm3, .bool sm4, .slice pm4 km4 cm4, .slice qm4 jm4 dm4, .bool sm5, .slice pm5 km5 cm5, .slice qm5 jm5 dm5, .bool sm6, .slice pm6 km6 cm6, .slice qm6 jm6 dm6]), .has (fun v w => RS i w v a1), .is (.func (.func 151) #[] #[]), .is (.agg #[.bool sn1, .slice pn1 kn1 cn1, .slice qn1 jn1 dn1, .bool sn2, .slice pn2 kn2 cn2, .slice qn2 jn2 dn2, .bool sn3, .slice pn3 kn3 cn3, .slice qn3 jn3 dn3, .bool sn4, .slice pn4 kn4 cn4, .slice qn4 jn4 dn4, .bool sn5, .slice pn5 kn5 cn5, .slice qn5 jn5 dn5, .bool sn6, .slice pn6 kn6 cn6, .slice qn6 jn6 dn6]), .has (fun v w => RS j w v a2), .is (.int .i64 C), .is (.bool false)] (by kernel_rfl) (by kernel_rfl) rfl (by simp only [Steady]; exact ⟨fun _ _ _ h hb => h.bel hb, fun _ _ _ h hb => h.bel hb, trivial⟩) ?_
          simp only [List.take_succ_cons, List.take_zero, List.drop_succ_cons, List.drop_zero]
          refine fV (by rfl) (by intro w1 hw1 hk1; go_simp) ?_
          simp only [Act.put, sA, sB, sC]
          refine fV (by rfl) (fun w1 hw1 _ => load_at rfl rfl (hw1.heap hmx.out) rfl Tryz.underlying72 rfl (by kernel_rfl)) ?_
          simp only [Act.put, sA, sB, sC]
          refine fH (by rfl) (by intro w1 hw1 hk1; exact HE0.out _ _ (HXM.out.bel hw1)) (by intro; go_simp) (fun v2 => ?_)
          simp only [Act.put, sA, sB, sC]
          refine fV (by rfl) (by intro w1 hw1 hk1; go_simp) ?_
          simp only [Act.put, sA, sB, sC]
          refine fV (by rfl) (fun w1 hw1 _ => load_at rfl rfl (hw1.heap hnx.out) rfl Tryz.underlying72 rfl (by kernel_rfl)) ?_
          simp only [Act.put, sA, sB, sC]
          refine fH (by rfl) (by intro w1 hw1 hk1; exact HF0.out _ _ (HXN.out.bel hw1)) (by intro; go_simp) (fun v5 => ?_)
          simp only [Act.put, sA, sB, sC]
          refine fC (by rfl) (by intro w1 hw1 hk1; obtain ⟨g5, g2, -⟩ := hk1; exact HCK.out _ _ _ g2 g5) (by intro; go_simp) ?_
          simp only [Act.put, sA, sB, sC]
          refine flow_is (by intro w1 hw1 hk1; refine want (by rfl) (gives_val ?_); have q := HQ.out; go_simp; (first | done | simp [q])) ?_
          simp only [Act.put, sA, sB, sC]
          intro W8 hW8 hk1
          obtain ⟨g5, g2, -⟩ := hk1
          have hfb := Lib.hid (HB.out.trans hW8)
          clear hW8 g2 g5 hmx hnx HXM HXN
          go_wp2
          go_roundg gk'
          case measure => omega
          case rel => exact ⟨1, rfl, by omega, by omega, ⟨fun _ => cmpR_eq.1 (HCC.out.trans HQ.out), fun h => absurd h (by omega), fun h => absurd h (by omega), fun h => absurd h (by omega), fun h => absurd h (by omega), fun h => absurd h (by omega)⟩, hfb.out⟩
        · have HQ := Lib.hid hc0
          clear hC hc0
          refine region_flow 8 [[], [], [0, 1], [], [], [3, 4], [2, 5], [6]] [.is (.func (.func 151) #[] #[]), .is (.agg #[.bool sm1, .slice pm1 km1 cm1, .slice qm1 jm1 dm1, .bool sm2, .slice pm2 km2 cm2, .slice qm2 jm2 dm2, .bool sm3, .slice pm3 km3 cm3, .slice qm3 jm3 dm3, .bool sm4, .slice pm4 km4 cm4, .slice qm4 jm4 dm4, .bool sm5, .slice pm5 km5 cm5, .slice qm5 jm5 dm5, .bool sm6, .slice pm6 km6 cm6, .slice qm6 jm6 dm6]), .has (fun v w => RS i w v a1), .is (.func (.func 151) #[] #[]), .is (.agg #[.bool sn1, .slice pn1 kn1 cn1, .slice qn1 jn1 dn1, .bool sn2, .slice pn2 kn2 cn2, .slice qn2 jn2 dn2, .bool sn3, .slice pn3 kn3 cn3, .slice qn3 jn3 dn3, .bool sn4, .slice pn4 kn4 cn4, .slice qn4 jn4 dn4, .bool sn5, .slice pn5 kn5 cn5, .slice qn5 jn5 dn5, .bool sn6, .slice pn6 kn6 cn6, .slice qn6 jn6 dn6]), .has (fun v w => RS j w v a2), .is (.int .i64 C), .is (.bool true)] (by kernel_rfl) (by kernel_rfl) rfl (by simp only [Steady]; exact ⟨fun _ _ _ h hb => h.bel hb, fun _ _ _ h hb => h.bel hb, trivial⟩) ?_
          simp only [List.take_succ_cons, List.take_zero, List.drop_succ_cons, List.drop_zero]
          refine fV (by rfl) (by intro w1 hw1 hk1; go_simp) ?_
          simp only [Act.put, sA, sB, sC]
          refine fV (by rfl) (fun w1 hw1 _ => load_at rfl rfl (hw1.heap hmx.out) rfl Tryz.underlying72 rfl (by kernel_rfl)) ?_
          simp only [Act.put, sA, sB, sC]
          refine fH (by rfl) (by intro w1 hw1 hk1; exact HE0.out _ _ (HXM.out.bel hw1)) (by intro; go_simp) (fun v2 => ?_)
          simp only [Act.put, sA, sB, sC]
          refine fV (by rfl) (by intro w1 hw1 hk1; go_simp) ?_
          simp only [Act.put, sA, sB, sC]
          refine fV (by rfl) (fun w1 hw1 _ => load_at rfl rfl (hw1.heap hnx.out) rfl Tryz.underlying72 rfl (by kernel_rfl)) ?_
          simp only [Act.put, sA, sB, sC]
          refine fH (by rfl) (by intro w1 hw1 hk1; exact HF0.out _ _ (HXN.out.bel hw1)) (by intro; go_simp) (fun v5 => ?_)
          simp only [Act.put, sA, sB, sC]
          refine fC (by rfl) (by intro w1 hw1 hk1; obtain ⟨g5, g2, -⟩ := hk1; exact HCK.out _ _ _ g2 g5) (by intro; go_simp) ?_
          simp only [Act.put, sA, sB, sC]
          refine flow_is (by intro w1 hw1 hk1; refine want (by rfl) (gives_val ?_); have q := HQ.out; go_simp; (first | done | simp [q])) ?_
          simp only [Act.put, sA, sB, sC]
          intro W8 hW8 hk1
          obtain ⟨g5, g2, -⟩ := hk1
          have hfb := Lib.hid (HBW2.out.trans (HB.out.trans hW8))
          clear hW8 g2 g5 hmx hnx HXM HXN
          have HD : Hid (DC = false) := by unfold Hid; rw [← HDC.out]; exact decide_eq_false fun h => HQ.out (by rw [← HCC.out]; exact cmpR_eq.2 h.1)
          go_wp2
          go_ret
          exact ⟨_, rfl, hfb.out, by rw [HD.out]; rfl⟩
      | 1, _ =>
        have c0 : wr.cell? ⟨L, 1, none⟩ = some (.func (.func 152) #[] #[]) := (heap_cell hxl 1).trans rfl
        clear hxl hlt
        have HCK := HC1
        obtain ⟨C, hC⟩ : ∃ C, cmpR b1 b2 = C := ⟨_, rfl⟩
        rw [hC] at HCK
        have HCC := Lib.hid hC
        go_upto_region 6 with fail
        clear c0
        by_cases hc0 : C = 0
        · have HQ := Lib.hid hc0
          clear hC hc0
          refine region_flow 8 [[], [], [0, 1], [], [], [3, 4], [2, 5], [6]] [.is (.func (.func 152) #[] #[]), .is (.agg #[.bool sm1, .slice pm1 km1 cm1, .slice qm1 jm1 dm1, .bool sm2, .slice pm2 km2 cm2, .slice qm2 jm2 dm2, .bool sm3, .slice pm3 km3 cm3, .slice qm3 jm3 dm3, .bool sm4, .slice pm4 km4 cm4, .slice qm4 jm4 dm4, .bool sm5, .slice pm5 km5 cm5, .slice qm5 jm5 dm5, .bool sm6, .slice pm6 km6 cm6, .slice qm6 jm6 dm6]), .has (fun v w => RS i w v b1), .is (.func (.func 152) #[] #[]), .is (.agg #[.bool sn1, .slice pn1 kn1 cn1, .slice qn1 jn1 dn1, .bool sn2, .slice pn2 kn2 cn2, .slice qn2 jn2 dn2, .bool sn3, .slice pn3 kn3 cn3, .slice qn3 jn3 dn3, .bool sn4, .slice pn4 kn4 cn4, .slice qn4 jn4 dn4, .bool sn5, .slice pn5 kn5 cn5, .slice qn5 jn5 dn5, .bool sn6, .slice pn6 kn6 cn6, .slice qn6 jn6 dn6]), .has (fun v w => RS j w v b2), .is (.int .i64 C), .is (.bool false)] (by kernel_rfl) (by kernel_rfl) rfl (by simp only [Steady]; exact ⟨fun _ _ _ h hb => h.bel hb, fun _ _ _ h hb => h.bel hb, trivial⟩) ?_
          simp only [List.take_succ_cons, List.take_zero, List.drop_succ_cons, List.drop_zero]
          refine fV (by rfl) (by intro w1 hw1 hk1; go_simp) ?_
          simp only [Act.put, sA, sB, sC]
          refine fV (by rfl) (fun w1 hw1 _ => load_at rfl rfl (hw1.heap hmx.out) rfl Tryz.underlying72 rfl (by kernel_rfl)) ?_
          simp only [Act.put, sA, sB, sC]
          refine fH (by rfl) (by intro w1 hw1 hk1; exact HE1.out _ _ (HXM.out.bel hw1)) (by intro; go_simp) (fun v2 => ?_)
          simp only [Act.put, sA, sB, sC]
          refine fV (by rfl) (by intro w1 hw1 hk1; go_simp) ?_
          simp only [Act.put, sA, sB, sC]
          refine fV (by rfl) (fun w1 hw1 _ => load_at rfl rfl (hw1.heap hnx.out) rfl Tryz.underlying72 rfl (by kernel_rfl)) ?_
          simp only [Act.put, sA, sB, sC]
          refine fH (by rfl) (by intro w1 hw1 hk1; exact HF1.out _ _ (HXN.out.bel hw1)) (by intro; go_simp) (fun v5 => ?_)
          simp only [Act.put, sA, sB, sC]
          refine fC (by rfl) (by intro w1 hw1 hk1; obtain ⟨g5, g2, -⟩ := hk1; exact HCK.out _ _ _ g2 g5) (by intro; go_simp) ?_
          simp only [Act.put, sA, sB, sC]
          refine flow_is (by intro w1 hw1 hk1; refine want (by rfl) (gives_val ?_); have q := HQ.out; go_simp; (first | done | simp [q])) ?_
          simp only [Act.put, sA, sB, sC]
          intro W8 hW8 hk1
          obtain ⟨g5, g2, -⟩ := hk1
          have hfb := Lib.hid (HB.out.trans hW8)
          clear hW8 g2 g5 hmx hnx HXM HXN
          go_wp2
          go_roundg gk'
          case measure => omega
          case rel => exact ⟨2, rfl, by omega, by omega, ⟨fun _ => HUP.out.1 (by omega), fun _ => cmpR_eq.1 (HCC.out.trans HQ.out), fun h => absurd h (by omega), fun h => absurd h (by omega), fun h => absurd h (by omega), fun h => absurd h (by omega)⟩, hfb.out⟩
        · have HQ := Lib.hid hc0
          clear hC hc0
          refine region_flow 8 [[], [], [0, 1], [], [], [3, 4], [2, 5], [6]] [.is (.func (.func 152) #[] #[]), .is (.agg #[.bool sm1, .slice pm1 km1 cm1, .slice qm1 jm1 dm1, .bool sm2, .slice pm2 km2 cm2, .slice qm2 jm2 dm2, .bool sm3, .slice pm3 km3 cm3, .slice qm3 jm3 dm3, .bool sm4, .slice pm4 km4 cm4, .slice qm4 jm4 dm4, .bool sm5, .slice pm5 km5 cm5, .slice qm5 jm5 dm5, .bool sm6, .slice pm6 km6 cm6, .slice qm6 jm6 dm6]), .has (fun v w => RS i w v b1), .is (.func (.func 152) #[] #[]), .is (.agg #[.bool sn1, .slice pn1 kn1 cn1, .slice qn1 jn1 dn1, .bool sn2, .slice pn2 kn2 cn2, .slice qn2 jn2 dn2, .bool sn3, .slice pn3 kn3 cn3, .slice qn3 jn3 dn3, .bool sn4, .slice pn4 kn4 cn4, .slice qn4 jn4 dn4, .bool sn5, .slice pn5 kn5 cn5, .slice qn5 jn5 dn5, .bool sn6, .slice pn6 kn6 cn6, .slice qn6 jn6 dn6]), .has (fun v w => RS j w v b2), .is (.int .i64 C), .is (.bool true)] (by kernel_rfl) (by kernel_rfl) rfl (by simp only [Steady]; exact ⟨fun _ _ _ h hb => h.bel hb, fun _ _ _ h hb => h.bel hb, trivial⟩) ?_
          simp only [List.take_succ_cons, List.take_zero, List.drop_succ_cons, List.drop_zero]
          refine fV (by rfl) (by intro w1 hw1 hk1; go_simp) ?_
          simp only [Act.put, sA, sB, sC]
          refine fV (by rfl) (fun w1 hw1 _ => load_at rfl rfl (hw1.heap hmx.out) rfl Tryz.underlying72 rfl (by kernel_rfl)) ?_
          simp only [Act.put, sA, sB, sC]
          refine fH (by rfl) (by intro w1 hw1 hk1; exact HE1.out _ _ (HXM.out.bel hw1)) (by intro; go_simp) (fun v2 => ?_)
          simp only [Act.put, sA, sB, sC]
          refine fV (by rfl) (by intro w1 hw1 hk1; go_simp) ?_
          simp only [Act.put, sA, sB, sC]
          refine fV (by rfl) (fun w1 hw1 _ => load_at rfl rfl (hw1.heap hnx.out) rfl Tryz.underlying72 rfl (by kernel_rfl)) ?_
          simp only [Act.put, sA, sB, sC]
          refine fH (by rfl) (by intro w1 hw1 hk1; exact HF1.out _ _ (HXN.out.bel hw1)) (by intro; go_simp) (fun v5 => ?_)
          simp only [Act.put, sA, sB, sC]
          refine fC (by rfl) (by intro w1 hw1 hk1; obtain ⟨g5, g2, -⟩ := hk1; exact HCK.out _ _ _ g2 g5) (by intro; go_simp) ?_
          simp only [Act.put, sA, sB, sC]
          refine flow_is (by intro w1 hw1 hk1; refine want (by rfl) (gives_val ?_); have q := HQ.out; go_simp; (first | done | simp [q])) ?_
          simp only [Act.put, sA, sB, sC]
          intro W8 hW8 hk1
          obtain ⟨g5, g2, -⟩ := hk1
          have hfb := Lib.hid (HBW2.out.trans (HB.out.trans hW8))
          clear hW8 g2 g5 hmx hnx HXM HXN
          have HD : Hid (DC = false) := by unfold Hid; rw [← HDC.out]; exact decide_eq_false fun h => HQ.out (by rw [← HCC.out]; exact cmpR_eq.2 h.2.1)
          go_wp2
          go_ret
          exact ⟨_, rfl, hfb.out, by rw [HD.out]; rfl⟩
      | 2, _ =>
        have c0 : wr.cell? ⟨L, 2, none⟩ = some (.func (.func 153) #[] #[]) := (heap_cell hxl 2).trans rfl
        clear hxl hlt
        have HCK := HC2
        obtain ⟨C, hC⟩ : ∃ C, cmpR c1 c2 = C := ⟨_, rfl⟩
        rw [hC] at HCK
        have HCC := Lib.hid hC
        go_upto_region 6 with fail
        clear c0
        by_cases hc0 : C = 0
        · have HQ := Lib.hid hc0
          clear hC hc0
          refine region_flow 8 [[], [], [0, 1], [], [], [3, 4], [2, 5], [6]] [.is (.func (.func 153) #[] #[]), .is (.agg #[.bool sm1, .slice pm1 km1 cm1, .slice qm1 jm1 dm1, .bool sm2, .slice pm2 km2 cm2, .slice qm2 jm2 dm2, .bool sm3, .slice pm3 km3 cm3, .slice qm3 jm3 dm3, .bool sm4, .slice pm4 km4 cm4, .slice qm4 jm4 dm4, .bool sm5, .slice pm5 km5 cm5, .slice qm5 jm5 dm5, .bool sm6, .slice pm6 km6 cm6, .slice qm6 jm6 dm6]), .has (fun v w => RS i w v c1), .is (.func (.func 153) #[] #[]), .is (.agg #[.bool sn1, .slice pn1 kn1 cn1, .slice qn1 jn1 dn1, .bool sn2, .slice pn2 kn2 cn2, .slice qn2 jn2 dn2, .bool sn3, .slice pn3 kn3 cn3, .slice qn3 jn3 dn3, .bool sn4, .slice pn4 kn4 cn4, .slice qn4 jn4 dn4, .bool sn5, .slice pn5 kn5 cn5, .slice qn5 jn5 dn5, .bool sn6, .slice pn6 kn6 cn6, .slice qn6 jn6 dn6]), .has (fun v w => RS j w v c2), .is (.int .i64 C), .is (.bool false)] (by kernel_rfl) (by kernel_rfl) rfl (by simp only [Steady]; exact ⟨fun _ _ _ h hb => h.bel hb, fun _ _ _ h hb => h.bel hb, trivial⟩) ?_
          simp only [List.take_succ_cons, List.take_zero, List.drop_succ_cons, List.drop_zero]
          refine fV (by rfl) (by intro w1 hw1 hk1; go_simp) ?_
          simp only [Act.put, sA, sB, sC]
          refine fV (by rfl) (fun w1 hw1 _ => load_at rfl rfl (hw1.heap hmx.out) rfl Tryz.underlying72 rfl (by kernel_rfl)) ?_
          simp only [Act.put, sA, sB, sC]
          refine fH (by rfl) (by intro w1 hw1 hk1; exact HE2.out _ _ (HXM.out.bel hw1)) (by intro; go_simp) (fun v2 => ?_)
          simp only [Act.put, sA, sB, sC]
          refine fV (by rfl) (by intro w1 hw1 hk1; go_simp) ?_
          simp only [Act.put, sA, sB, sC]
          refine fV (by rfl) (fun w1 hw1 _ => load_at rfl rfl (hw1.heap hnx.out) rfl Tryz.underlying72 rfl (by kernel_rfl)) ?_
          simp only [Act.put, sA, sB, sC]
          refine fH (by rfl) (by intro w1 hw1 hk1; exact HF2.out _ _ (HXN.out.bel hw1)) (by intro; go_simp) (fun v5 => ?_)
          simp only [Act.put, sA, sB, sC]
          refine fC (by rfl) (by intro w1 hw1 hk1; obtain ⟨g5, g2, -⟩ := hk1; exact HCK.out _ _ _ g2 g5) (by intro; go_simp) ?_
          simp only [Act.put, sA, sB, sC]
          refine flow_is (by intro w1 hw1 hk1; refine want (by rfl) (gives_val ?_); have q := HQ.out; go_simp; (first | done | simp [q])) ?_
          simp only [Act.put, sA, sB, sC]
          intro W8 hW8 hk1
          obtain ⟨g5, g2, -⟩ := hk1
          have hfb := Lib.hid (HB.out.trans hW8)
          clear hW8 g2 g5 hmx hnx HXM HXN
          go_wp2
          go_roundg gk'
          case measure => omega
          case rel => exact ⟨3, rfl, by omega, by omega, ⟨fun _ => HUP.out.1 (by omega), fun _ => HUP.out.2.1 (by omega), fun _ => cmpR_eq.1 (HCC.out.trans HQ.out), fun h => absurd h (by omega), fun h => absurd h (by omega), fun h => absurd h (by omega)⟩, hfb.out⟩
        · have HQ := Lib.hid hc0
          clear hC hc0
          refine region_flow 8 [[], [], [0, 1], [], [], [3, 4], [2, 5], [6]] [.is (.func (.func 153) #[] #[]), .is (.agg #[.bool sm1, .slice pm1 km1 cm1, .slice qm1 jm1 dm1, .bool sm2, .slice pm2 km2 cm2, .slice qm2 jm2 dm2, .bool sm3, .slice pm3 km3 cm3, .slice qm3 jm3 dm3, .bool sm4, .slice pm4 km4 cm4, .slice qm4 jm4 dm4, .bool sm5, .slice pm5 km5 cm5, .slice qm5 jm5 dm5, .bool sm6, .slice pm6 km6 cm6, .slice qm6 jm6 dm6]), .has (fun v w => RS i w v c1), .is (.func (.func 153) #[] #[]), .is (.agg #[.bool sn1, .slice pn1 kn1 cn1, .slice qn1 jn1 dn1, .bool sn2, .slice pn2 kn2 cn2, .slice qn2 jn2 dn2, .bool sn3, .slice pn3 kn3 cn3, .slice qn3 jn3 dn3, .bool sn4, .slice pn4 kn4 cn4, .slice qn4 jn4 dn4, .bool sn5, .slice pn5 kn5 cn5, .slice qn5 jn5 dn5, .bool sn6, .slice pn6 kn6 cn6, .slice qn6 jn6 dn6]), .has (fun v w => RS j w v c2), .is (.int .i64 C), .is (.bool true)] (by kernel_rfl) (by kernel_rfl) rfl (by simp only [Steady]; exact ⟨fun _ _ _ h hb => h.bel hb, fun _ _ _ h hb => h.bel hb, trivial⟩) ?_
          simp only [List.take_succ_cons, List.take_zero, List.drop_succ_cons, List.drop_zero]
          refine fV (by rfl) (by intro w1 hw1 hk1; go_simp) ?_
          simp only [Act.put, sA, sB, sC]
          refine fV (by rfl) (fun w1 hw1 _ => load_at rfl rfl (hw1.heap hmx.out) rfl Tryz.underlying72 rfl (by kernel_rfl)) ?_
          simp only [Act.put, sA, sB, sC]
          refine fH (by rfl) (by intro w1 hw1 hk1; exact HE2.out _ _ (HXM.out.bel hw1)) (by intro; go_simp) (fun v2 => ?_)
          simp only [Act.put, sA, sB, sC]
          refine fV (by rfl) (by intro w1 hw1 hk1; go_simp) ?_
          simp only [Act.put, sA, sB, sC]
          refine fV (by rfl) (fun w1 hw1 _ => load_at rfl rfl (hw1.heap hnx.out) rfl Tryz.underlying72 rfl (by kernel_rfl)) ?_
          simp only [Act.put, sA, sB, sC]
          refine fH (by rfl) (by intro w1 hw1 hk1; exact HF2.out _ _ (HXN.out.bel hw1)) (by intro; go_simp) (fun v5 => ?_)
          simp only [Act.put, sA, sB, sC]
          refine fC (by rfl) (by intro w1 hw1 hk1; obtain ⟨g5, g2, -⟩ := hk1; exact HCK.out _ _ _ g2 g5) (by intro; go_simp) ?_
          simp only [Act.put, sA, sB, sC]
          refine flow_is (by intro w1 hw1 hk1; refine want (by rfl) (gives_val ?_); have q := HQ.out; go_simp; (first | done | simp [q])) ?_
          simp only [Act.put, sA, sB, sC]
          intro W8 hW8 hk1
          obtain ⟨g5, g2, -⟩ := hk1
          have hfb := Lib.hid (HBW2.out.trans (HB.out.trans hW8))
          clear hW8 g2 g5 hmx hnx HXM HXN
          have HD : Hid (DC = false) := by unfold Hid; rw [← HDC.out]; exact decide_eq_false fun h => HQ.out (by rw [← HCC.out]; exact cmpR_eq.2 h.2.2.1)
          go_wp2
          go_ret
          exact ⟨_, rfl, hfb.out, by rw [HD.out]; rfl⟩
      | 3, _ =>
        have c0 : wr.cell? ⟨L, 3, none⟩ = some (.func (.func 154) #[] #[]) := (heap_cell hxl 3).trans rfl
        clear hxl hlt
        have HCK := HC3
        obtain ⟨C, hC⟩ : ∃ C, cmpR d1 d2 = C := ⟨_, rfl⟩
        rw [hC] at HCK
        have HCC := Lib.hid hC
        go_upto_region 6 with fail
        clear c0
        by_cases hc0 : C = 0
        · have HQ := Lib.hid hc0
          clear hC hc0
          refine region_flow 8 [[], [], [0, 1], [], [], [3, 4], [2, 5], [6]] [.is (.func (.func 154) #[] #[]), .is (.agg #[.bool sm1, .slice pm1 km1 cm1, .slice qm1 jm1 dm1, .bool sm2, .slice pm2 km2 cm2, .slice qm2 jm2 dm2, .bool sm3, .slice pm3 km3 cm3, .slice qm3 jm3 dm3, .bool sm4, .slice pm4 km4 cm4, .slice qm4 jm4 dm4, .bool sm5, .slice pm5 km5 cm5, .slice qm5 jm5 dm5, .bool sm6, .slice pm6 km6 cm6, .slice qm6 jm6 dm6]), .has (fun v w => RS i w v d1), .is (.func (.func 154) #[] #[]), .is (.agg #[.bool sn1, .slice pn1 kn1 cn1, .slice qn1 jn1 dn1, .bool sn2, .slice pn2 kn2 cn2, .slice qn2 jn2 dn2, .bool sn3, .slice pn3 kn3 cn3, .slice qn3 jn3 dn3, .bool sn4, .slice pn4 kn4 cn4, .slice qn4 jn4 dn4, .bool sn5, .slice pn5 kn5 cn5, .slice qn5 jn5 dn5, .bool sn6, .slice pn6 kn6 cn6, .slice qn6 jn6 dn6]), .has (fun v w => RS j w v d2), .is (.int .i64 C), .is (.bool false)] (by kernel_rfl) (by kernel_rfl) rfl (by simp only [Steady]; exact ⟨fun _ _ _ h hb => h.bel hb, fun _ _ _ h hb => h.bel hb, trivial⟩) ?_
          simp only [List.take_succ_cons, List.take_zero, List.drop_succ_cons, List.drop_zero]
          refine fV (by rfl) (by intro w1 hw1 hk1; go_simp) ?_
          simp only [Act.put, sA, sB, sC]
          refine fV (by rfl) (fun w1 hw1 _ => load_at rfl rfl (hw1.heap hmx.out) rfl Tryz.underlying72 rfl (by kernel_rfl)) ?_
          simp only [Act.put, sA, sB, sC]
          refine fH (by rfl) (by intro w1 hw1 hk1; exact HE3.out _ _ (HXM.out.bel hw1)) (by intro; go_simp) (fun v2 => ?_)
          simp only [Act.put, sA, sB, sC]
          refine fV (by rfl) (by intro w1 hw1 hk1; go_simp) ?_
          simp only [Act.put, sA, sB, sC]
          refine fV (by rfl) (fun w1 hw1 _ => load_at rfl rfl (hw1.heap hnx.out) rfl Tryz.underlying72 rfl (by kernel_rfl)) ?_
          simp only [Act.put, sA, sB, sC]
          refine fH (by rfl) (by intro w1 hw1 hk1; exact HF3.out _ _ (HXN.out.bel hw1)) (by intro; go_simp) (fun v5 => ?_)
          simp only [Act.put, sA, sB, sC]
          refine fC (by rfl) (by intro w1 hw1 hk1; obtain ⟨g5, g2, -⟩ := hk1; exact HCK.out _ _ _ g2 g5) (by intro; go_simp) ?_
          simp only [Act.put, sA, sB, sC]
          refine flow_is (by intro w1 hw1 hk1; refine want (by rfl) (gives_val ?_); have q := HQ.out; go_simp; (first | done | simp [q])) ?_
          simp only [Act.put, sA, sB, sC]
          intro W8 hW8 hk1
          obtain ⟨g5, g2, -⟩ := hk1
          have hfb := Lib.hid (HB.out.trans hW8)
          clear hW8 g2 g5 hmx hnx HXM HXN
          go_wp2
          go_roundg gk'
          case measure => omega
          case rel => exact ⟨4, rfl, by omega, by omega, ⟨fun _ => HUP.out.1 (by omega), fun _ => HUP.out.2.1 (by omega), fun _ => HUP.out.2.2.1 (by omega), fun _ => cmpR_eq.1 (HCC.out.trans HQ.out), fun h => absurd h (by omega), fun h => absurd h (by omega)⟩, hfb.out⟩
        · have HQ := Lib.hid hc0
          clear hC hc0
          refine region_flow 8 [[], [], [0, 1], [], [], [3, 4], [2, 5], [6]] [.is (.func (.func 154) #[] #[]), .is (.agg #[.bool sm1, .slice pm1 km1 cm1, .slice qm1 jm1 dm1, .bool sm2, .slice pm2 km2 cm2, .slice qm2 jm2 dm2, .bool sm3, .slice pm3 km3 cm3, .slice qm3 jm3 dm3, .bool sm4, .slice pm4 km4 cm4, .slice qm4 jm4 dm4, .bool sm5, .slice pm5 km5 cm5, .slice qm5 jm5 dm5, .bool sm6, .slice pm6 km6 cm6, .slice qm6 jm6 dm6]), .has (fun v w => RS i w v d1), .is (.func (.func 154) #[] #[]), .is (.agg #[.bool sn1, .slice pn1 kn1 cn1, .slice qn1 jn1 dn1, .bool sn2, .slice pn2 kn2 cn2, .slice qn2 jn2 dn2, .bool sn3, .slice pn3 kn3 cn3, .slice qn3 jn3 dn3, .bool sn4, .slice pn4 kn4 cn4, .slice qn4 jn4 dn4, .bool sn5, .slice pn5 kn5 cn5, .slice qn5 jn5 dn5, .bool sn6, .slice pn6 kn6 cn6, .slice qn6 jn6 dn6]), .has (fun v w => RS j w v d2), .is (.int .i64 C), .is (.bool true)] (by kernel_rfl) (by kernel_rfl) rfl (by simp only [Steady]; exact ⟨fun _ _ _ h hb => h.bel hb, fun _ _ _ h hb => h.bel hb, trivial⟩) ?_
          simp only [List.take_succ_cons, List.take_zero, List.drop_succ_cons, List.drop_zero]
          refine fV (by rfl) (by intro w1 hw1 hk1; go_simp) ?_
          simp only [Act.put, sA, sB, sC]
          refine fV (by rfl) (fun w1 hw1 _ => load_at rfl rfl (hw1.heap hmx.out) rfl Tryz.underlying72 rfl (by kernel_rfl)) ?_
          simp only [Act.put, sA, sB, sC]
          refine fH (by rfl) (by intro w1 hw1 hk1; exact HE3.out _ _ (HXM.out.bel hw1)) (by intro; go_simp) (fun v2 => ?_)
          simp only [Act.put, sA, sB, sC]
          refine fV (by rfl) (by intro w1 hw1 hk1; go_simp) ?_
          simp only [Act.put, sA, sB, sC]
          refine fV (by rfl) (fun w1 hw1 _ => load_at rfl rfl (hw1.heap hnx.out) rfl Tryz.underlying72 rfl (by kernel_rfl)) ?_
          simp only [Act.put, sA, sB, sC]
          refine fH (by rfl) (by intro w1 hw1 hk1; exact HF3.out _ _ (HXN.out.bel hw1)) (by intro; go_simp) (fun v5 => ?_)
          simp only [Act.put, sA, sB, sC]
          refine fC (by rfl) (by intro w1 hw1 hk1; obtain ⟨g5, g2, -⟩ := hk1; exact HCK.out _ _ _ g2 g5) (by intro; go_simp) ?_
          simp only [Act.put, sA, sB, sC]
          refine flow_is (by intro w1 hw1 hk1; refine want (by rfl) (gives_val ?_); have q := HQ.out; go_simp; (first | done | simp [q])) ?_
          simp only [Act.put, sA, sB, sC]
          intro W8 hW8 hk1
          obtain ⟨g5, g2, -⟩ := hk1
          have hfb := Lib.hid (HBW2.out.trans (HB.out.trans hW8))
          clear hW8 g2 g5 hmx hnx HXM HXN
          have HD : Hid (DC = false) := by unfold Hid; rw [← HDC.out]; exact decide_eq_false fun h => HQ.out (by rw [← HCC.out]; exact cmpR_eq.2 h.2.2.2.1)
          go_wp2
          go_ret
          exact ⟨_, rfl, hfb.out, by rw [HD.out]; rfl⟩
      | 4, _ =>
        have c0 : wr.cell? ⟨L, 4, none⟩ = some (.func (.func 155) #[] #[]) := (heap_cell hxl 4).trans rfl
        clear hxl hlt
        have HCK := HC4
        obtain ⟨C, hC⟩ : ∃ C, cmpR e1 e2 = C := ⟨_, rfl⟩
        rw [hC] at HCK
        have HCC := Lib.hid hC
        go_upto_region 6 with fail
        clear c0
        by_cases hc0 : C = 0
        · have HQ := Lib.hid hc0
          clear hC hc0
          refine region_flow 8 [[], [], [0, 1], [], [], [3, 4], [2, 5], [6]] [.is (.func (.func 155) #[] #[]), .is (.agg #[.bool sm1, .slice pm1 km1 cm1, .slice qm1 jm1 dm1, .bool sm2, .slice pm2 km2 cm2, .slice qm2 jm2 dm2, .bool sm3, .slice pm3 km3 cm3, .slice qm3 jm3 dm3, .bool sm4, .slice pm4 km4 cm4, .slice qm4 jm4 dm4, .bool sm5, .slice pm5 km5 cm5, .slice qm5 jm5 dm5, .bool sm6, .slice pm6 km6 cm6, .slice qm6 jm6 dm6]), .has (fun v w => RS i w v e1), .is (.func (.func 155) #[] #[]), .is (.agg #[.bool sn1, .slice pn1 kn1 cn1, .slice qn1 jn1 dn1, .bool sn2, .slice pn2 kn2 cn2, .slice qn2 jn2 dn2, .bool sn3, .slice pn3 kn3 cn3, .slice qn3 jn3 dn3, .bool sn4, .slice pn4 kn4 cn4, .slice qn4 jn4 dn4, .bool sn5, .slice pn5 kn5 cn5, .slice qn5 jn5 dn5, .bool sn6, .slice pn6 kn6 cn6, .slice qn6 jn6 dn6]), .has (fun v w => RS j w v e2), .is (.int .i64 C), .is (.bool false)] (by kernel_rfl) (by kernel_rfl) rfl (by simp only [Steady]; exact ⟨fun _ _ _ h hb => h.bel hb, fun _ _ _ h hb => h.bel hb, trivial⟩) ?_
          simp only [List.take_succ_cons, List.take_zero, List.drop_succ_cons, List.drop_zero]
          refine fV (by rfl) (by intro w1 hw1 hk1; go_simp) ?_
          simp only [Act.put, sA, sB, sC]
          refine fV (by rfl) (fun w1 hw1 _ => load_at rfl rfl (hw1.heap hmx.out) rfl Tryz.underlying72 rfl (by kernel_rfl)) ?_
          simp only [Act.put, sA, sB, sC]
          refine fH (by rfl) (by intro w1 hw1 hk1; exact HE4.out _ _ (HXM.out.bel hw1)) (by intro; go_simp) (fun v2 => ?_)
          simp only [Act.put, sA, sB, sC]
          refine fV (by rfl) (by intro w1 hw1 hk1; go_simp) ?_
          simp only [Act.put, sA, sB, sC]
          refine fV (by rfl) (fun w1 hw1 _ => load_at rfl rfl (hw1.heap hnx.out) rfl Tryz.underlying72 rfl (by kernel_rfl)) ?_
          simp only [Act.put, sA, sB, sC]
          refine fH (by rfl) (by intro w1 hw1 hk1; exact HF4.out _ _ (HXN.out.bel hw1)) (by intro; go_simp) (fun v5 => ?_)
          simp only [Act.put, sA, sB, sC]
          refine fC (by rfl) (by intro w1 hw1 hk1; obtain ⟨g5, g2, -⟩ := hk1; exact HCK.out _ _ _ g2 g5) (by intro; go_simp) ?_
          simp only [Act.put, sA, sB, sC]
          refine flow_is (by intro w1 hw1 hk1; refine want (by rfl) (gives_val ?_); have q := HQ.out; go_simp; (first | done | simp [q])) ?_
          simp only [Act.put, sA, sB, sC]
          intro W8 hW8 hk1
          obtain ⟨g5, g2, -⟩ := hk1
          have hfb := Lib.hid (HB.out.trans hW8)
          clear hW8 g2 g5 hmx hnx HXM HXN
          go_wp2
          go_roundg gk'
          case measure => omega
          case rel => exact ⟨5, rfl, by omega, by omega, ⟨fun _ => HUP.out.1 (by omega), fun _ => HUP.out.2.1 (by omega), fun _ => HUP.out.2.2.1 (by omega), fun _ => HUP.out.2.2.2.1 (by omega), fun _ => cmpR_eq.1 (HCC.out.trans HQ.out), fun h => absurd h (by omega)⟩, hfb.out⟩
        · have HQ := Lib.hid hc0
          clear hC hc0
          refine region_flow 8 [[], [], [0, 1], [], [], [3, 4], [2, 5], [6]] [.is (.func (.func 155) #[] #[]), .is (.agg #[.bool sm1, .slice pm1 km1 cm1, .slice qm1 jm1 dm1, .bool sm2, .slice pm2 km2 cm2, .slice qm2 jm2 dm2, .bool sm3, .slice pm3 km3 cm3, .slice qm3 jm3 dm3, .bool sm4, .slice pm4 km4 cm4, .slice qm4 jm4 dm4, .bool sm5, .slice pm5 km5 cm5, .slice qm5 jm5 dm5, .bool sm6, .slice pm6 km6 cm6, .slice qm6 jm6 dm6]), .has (fun v w => RS i w v e1), .is (.func (.func 155) #[] #[]), .is (.agg #[.bool sn1, .slice pn1 kn1 cn1, .slice qn1 jn1 dn1, .bool sn2, .slice pn2 kn2 cn2, .slice qn2 jn2 dn2, .bool sn3, .slice pn3 kn3 cn3, .slice qn3 jn3 dn3, .bool sn4, .slice pn4 kn4 cn4, .slice qn4 jn4 dn4, .bool sn5, .slice pn5 kn5 cn5, .slice qn5 jn5 dn5, .bool sn6, .slice pn6 kn6 cn6, .slice qn6 jn6 dn6]), .has (fun v w => RS j w v e2), .is (.int .i64 C), .is (.bool true)] (by kernel_rfl) (by kernel_rfl) rfl (by simp only [Steady]; exact ⟨fun _ _ _ h hb => h.bel hb, fun _ _ _ h hb => h.bel hb, trivial⟩) ?_
          simp only [List.take_succ_cons, List.take_zero, List.drop_succ_cons, List.drop_zero]
          refine fV (by rfl) (by intro w1 hw1 hk1; go_simp) ?_
          simp only [Act.put, sA, sB, sC]
          refine fV (by rfl) (fun w1 hw1 _ => load_at rfl rfl (hw1.heap hmx.out) rfl Tryz.underlying72 rfl (by kernel_rfl)) ?_
          simp only [Act.put, sA, sB, sC]
          refine fH (by rfl) (by intro w1 hw1 hk1; exact HE4.out _ _ (HXM.out.bel hw1)) (by intro; go_simp) (fun v2 => ?_)
          simp only [Act.put, sA, sB, sC]
          refine fV (by rfl) (by intro w1 hw1 hk1; go_simp) ?_
          simp only [Act.put, sA, sB, sC]
          refine fV (by rfl) (fun w1 hw1 _ => load_at rfl rfl (hw1.heap hnx.out) rfl Tryz.underlying72 rfl (by kernel_rfl)) ?_
          simp only [Act.put, sA, sB, sC]
          refine fH (by rfl) (by intro w1 hw1 hk1; exact HF4.out _ _ (HXN.out.bel hw1)) (by intro; go_simp) (fun v5 => ?_)
          simp only [Act.put, sA, sB, sC]
          refine fC (by rfl) (by intro w1 hw1 hk1; obtain ⟨g5, g2, -⟩ := hk1; exact HCK.out _ _ _ g2 g5) (by intro; go_simp) ?_
          simp only [Act.put, sA, sB, sC]
          refine flow_is (by intro w1 hw1 hk1; refine want (by rfl) (gives_val ?_); have q := HQ.out; go_simp; (first | done | simp [q])) ?_
          simp only [Act.put, sA, sB, sC]
          intro W8 hW8 hk1
          obtain ⟨g5, g2, -⟩ := hk1
          have hfb := Lib.hid (HBW2.out.trans (HB.out.trans hW8))
          clear hW8 g2 g5 hmx hnx HXM HXN
          have HD : Hid (DC = false) := by unfold Hid; rw [← HDC.out]; exact decide_eq_false fun h => HQ.out (by rw [← HCC.out]; exact cmpR_eq.2 h.2.2.2.2.1)
          go_wp2
          go_ret
          exact ⟨_, rfl, hfb.out, by rw [HD.out]; rfl⟩
      | 5, _ =>
        have c0 : wr.cell? ⟨L, 5, none⟩ = some (.func (.func 156) #[] #[]) := (heap_cell hxl 5).trans rfl
        clear hxl hlt
        have HCK := HC5
        obtain ⟨C, hC⟩ : ∃ C, cmpR f1 f2 = C := ⟨_, rfl⟩
        rw [hC] at HCK
        have HCC := Lib.hid hC
        go_upto_region 6 with fail
        clear c0
        by_cases hc0 : C = 0
        · have HQ := Lib.hid hc0
          clear hC hc0
          refine region_flow 8 [[], [], [0, 1], [], [], [3, 4], [2, 5], [6]] [.is (.func (.func 156) #[] #[]), .is (.agg #[.bool sm1, .slice pm1 km1 cm1, .slice qm1 jm1 dm1, .bool sm2, .slice pm2 km2 cm2, .slice qm2 jm2 dm2, .bool sm3, .slice pm3 km3 cm3, .slice qm3 jm3 dm3, .bool sm4, .slice pm4 km4 cm4, .slice qm4 jm4 dm4, .bool sm5, .slice pm5 km5 cm5, .slice qm5 jm5 dm5, .bool sm6, .slice pm6 km6 cm6, .slice qm6 jm6 dm6]), .has (fun v w => RS i w v f1), .is (.func (.func 156) #[] #[]), .is (.agg #[.bool sn1, .slice pn1 kn1 cn1, .slice qn1 jn1 dn1, .bool sn2, .slice pn2 kn2 cn2, .slice qn2 jn2 dn2, .bool sn3, .slice pn3 kn3 cn3, .slice qn3 jn3 dn3, .bool sn4, .slice pn4 kn4 cn4, .slice qn4 jn4 dn4, .bool sn5, .slice pn5 kn5 cn5, .slice qn5 jn5 dn5, .bool sn6, .slice pn6 kn6 cn6, .slice qn6 jn6 dn6]), .has (fun v w => RS j w v f2), .is (.int .i64 C), .is (.bool false)] (by kernel_rfl) (by kernel_rfl) rfl (by simp only [Steady]; exact ⟨fun _ _ _ h hb => h.bel hb, fun _ _ _ h hb => h.bel hb, trivial⟩) ?_
          simp only [List.take_succ_cons, List.take_zero, List.drop_succ_cons, List.drop_zero]
          refine fV (by rfl) (by intro w1 hw1 hk1; go_simp) ?_
          simp only [Act.put, sA, sB, sC]
          refine fV (by rfl) (fun w1 hw1 _ => load_at rfl rfl (hw1.heap hmx.out) rfl Tryz.underlying72 rfl (by kernel_rfl)) ?_
          simp only [Act.put, sA, sB, sC]
          refine fH (by rfl) (by intro w1 hw1 hk1; exact HE5.out _ _ (HXM.out.bel hw1)) (by intro; go_simp) (fun v2 => ?_)
          simp only [Act.put, sA, sB, sC]
          refine fV (by rfl) (by intro w1 hw1 hk1; go_simp) ?_
          simp only [Act.put, sA, sB, sC]
          refine fV (by rfl) (fun w1 hw1 _ => load_at rfl rfl (hw1.heap hnx.out) rfl Tryz.underlying72 rfl (by kernel_rfl)) ?_
          simp only [Act.put, sA, sB, sC]
          refine fH (by rfl) (by intro w1 hw1 hk1; exact HF5.out _ _ (HXN.out.bel hw1)) (by intro; go_simp) (fun v5 => ?_)
          simp only [Act.put, sA, sB, sC]
          refine fC (by rfl) (by intro w1 hw1 hk1; obtain ⟨g5, g2, -⟩ := hk1; exact HCK.out _ _ _ g2 g5) (by intro; go_simp) ?_
          simp only [Act.put, sA, sB, sC]
          refine flow_is (by intro w1 hw1 hk1; refine want (by rfl) (gives_val ?_); have q := HQ.out; go_simp; (first | done | simp [q])) ?_
          simp only [Act.put, sA, sB, sC]
          intro W8 hW8 hk1
          obtain ⟨g5, g2, -⟩ := hk1
          have hfb := Lib.hid (HB.out.trans hW8)
          clear hW8 g2 g5 hmx hnx HXM HXN
          go_wp2
          go_roundg gk'
          case measure => omega
          case rel => exact ⟨6, rfl, by omega, by omega, ⟨fun _ => HUP.out.1 (by omega), fun _ => HUP.out.2.1 (by omega), fun _ => HUP.out.2.2.1 (by omega), fun _ => HUP.out.2.2.2.1 (by omega), fun _ => HUP.out.2.2.2.2.1 (by omega), fun _ => cmpR_eq.1 (HCC.out.trans HQ.out)⟩, hfb.out⟩
        · have HQ := Lib.hid hc0
          clear hC hc0
          refine region_flow 8 [[], [], [0, 1], [], [], [3, 4], [2, 5], [6]] [.is (.func (.func 156) #[] #[]), .is (.agg #[.bool sm1, .slice pm1 km1 cm1, .slice qm1 jm1 dm1, .bool sm2, .slice pm2 km2 cm2, .slice qm2 jm2 dm2, .bool sm3, .slice pm3 km3 cm3, .slice qm3 jm3 dm3, .bool sm4, .slice pm4 km4 cm4, .slice qm4 jm4 dm4, .bool sm5, .slice pm5 km5 cm5, .slice qm5 jm5 dm5, .bool sm6, .slice pm6 km6 cm6, .slice qm6 jm6 dm6]), .has (fun v w => RS i w v f1), .is (.func (.func 156) #[] #[]), .is (.agg #[.bool sn1, .slice pn1 kn1 cn1, .slice qn1 jn1 dn1, .bool sn2, .slice pn2 kn2 cn2, .slice qn2 jn2 dn2, .bool sn3, .slice pn3 kn3 cn3, .slice qn3 jn3 dn3, .bool sn4, .slice pn4 kn4 cn4, .slice qn4 jn4 dn4, .bool sn5, .slice pn5 kn5 cn5, .slice qn5 jn5 dn5, .bool sn6, .slice pn6 kn6 cn6, .slice qn6 jn6 dn6]), .has (fun v w => RS j w v f2), .is (.int .i64 C), .is (.bool true)] (by kernel_rfl) (by kernel_rfl) rfl (by simp only [Steady]; exact ⟨fun _ _ _ h hb => h.bel hb, fun _ _ _ h hb => h.bel hb, trivial⟩) ?_
          simp only [List.take_succ_cons, List.take_zero, List.drop_succ_cons, List.drop_zero]
          refine fV (by rfl) (by intro w1 hw1 hk1; go_simp) ?_
          simp only [Act.put, sA, sB, sC]
          refine fV (by rfl) (fun w1 hw1 _ => load_at rfl rfl (hw1.heap hmx.out) rfl Tryz.underlying72 rfl (by kernel_rfl)) ?_
          simp only [Act.put, sA, sB, sC]
          refine fH (by rfl) (by intro w1 hw1 hk1; exact HE5.out _ _ (HXM.out.bel hw1)) (by intro; go_simp) (fun v2 => ?_)
          simp only [Act.put, sA, sB, sC]
          refine fV (by rfl) (by intro w1 hw1 hk1; go_simp) ?_
          simp only [Act.put, sA, sB, sC]
          refine fV (by rfl) (fun w1 hw1 _ => load_at rfl rfl (hw1.heap hnx.out) rfl Tryz.underlying72 rfl (by kernel_rfl)) ?_
          simp only [Act.put, sA, sB, sC]
          refine fH (by rfl) (by intro w1 hw1 hk1; exact HF5.out _ _ (HXN.out.bel hw1)) (by intro; go_simp) (fun v5 => ?_)
          simp only [Act.put, sA, sB, sC]
          refine fC (by rfl) (by intro w1 hw1 hk1; obtain ⟨g5, g2, -⟩ := hk1; exact HCK.out _ _ _ g2 g5) (by intro; go_simp) ?_
          simp only [Act.put, sA, sB, sC]
          refine flow_is (by intro w1 hw1 hk1; refine want (by rfl) (gives_val ?_); have q := HQ.out; go_simp; (first | done | simp [q])) ?_
          simp only [Act.put, sA, sB, sC]
          intro W8 hW8 hk1
          obtain ⟨g5, g2, -⟩ := hk1
          have hfb := Lib.hid (HBW2.out.trans (HB.out.trans hW8))
          clear hW8 g2 g5 hmx hnx HXM HXN
          have HD : Hid (DC = false) := by unfold Hid; rw [← HDC.out]; exact decide_eq_false fun h => HQ.out (by rw [← HCC.out]; exact cmpR_eq.2 h.2.2.2.2.2)
          go_wp2
          go_ret
          exact ⟨_, rfl, hfb.out, by rw [HD.out]; rfl⟩
      | k + 6, h => exact absurd h (by omega)
    · obtain rfl : k = 6 := by omega
      have hfb := Lib.hid (HBW2.out.trans HB.out)
      have HD : Hid (DC = true) := by unfold Hid; rw [← HDC.out]; exact decide_eq_true ⟨HUP.out.1 (by omega), HUP.out.2.1 (by omega), HUP.out.2.2.1 (by omega), HUP.out.2.2.2.1 (by omega), HUP.out.2.2.2.2.1 (by omega), HUP.out.2.2.2.2.2 (by omega)⟩
      clear hxl
      go_wp2
      go_ret
      exact ⟨_, rfl, hfb.out, by rw [HD.out]; rfl⟩
end Go.Proofs.YtafmfnpjhhaikaaGreatDoor
