/-
  mat: x, y, shift, of, line, Apply, Mul, Det (printed by gen_mab.py).
-/
import Derived.Test.YtafmfnpjhhaikaaGreatDoorZaw
namespace Go.Proofs.YtafmfnpjhhaikaaGreatDoor
open Go.RowKit Go.Shelf

set_option maxHeartbeats 4000000 in
set_option maxRecDepth 100000 in
theorem au_mx {w : World} {m : Value} {am bm cm dm em fm : Rat} {nm : Nat} (hm : MS nm w m am bm cm dm em fm) (hl : 1 * (nm) + 1 < LimK) : Calls Tryz.prog 108 #[m] w (Makes w fun v w' => PS nm w' v am bm) := by
  clear hl
  obtain ⟨sm1, pm1, km1, cm1, qm1, jm1, dm1, sm2, pm2, km2, cm2, qm2, jm2, dm2, sm3, pm3, km3, cm3, qm3, jm3, dm3, sm4, pm4, km4, cm4, qm4, jm4, dm4, sm5, pm5, km5, cm5, qm5, jm5, dm5, sm6, pm6, km6, cm6, qm6, jm6, dm6, rfl, hm1, hm2, hm3, hm4, hm5, hm6⟩ := hm.parts
  have HPm := Lib.hid hm
  have HPm1 := Lib.hid hm1
  have HPm2 := Lib.hid hm2
  have HPm3 := Lib.hid hm3
  have HPm4 := Lib.hid hm4
  have HPm5 := Lib.hid hm5
  have HPm6 := Lib.hid hm6
  clear hm hm1 hm2 hm3 hm4 hm5 hm6
  go_enter Tryz.func108, Tryz.ntmps108
  go_upto_region 1 with fail
  obtain ⟨hXp0, hXR, hbw⟩ := boxes2 w (.cells #[.bool sm1, .slice pm1 km1 cm1, .slice qm1 jm1 dm1, .bool sm2, .slice pm2 km2 cm2, .slice qm2 jm2 dm2, .bool sm3, .slice pm3 km3 cm3, .slice qm3 jm3 dm3, .bool sm4, .slice pm4 km4 cm4, .slice qm4 jm4 dm4, .bool sm5, .slice pm5 km5 cm5, .slice qm5 jm5 dm5, .bool sm6, .slice pm6 km6 cm6, .slice qm6 jm6 dm6] 72) (.cells #[.bool false, .slice none 0 0, .slice none 0 0, .bool false, .slice none 0 0, .slice none 0 0] 28)
  obtain ⟨W, hW⟩ : ∃ W, (w.alloc (.cells #[.bool sm1, .slice pm1 km1 cm1, .slice qm1 jm1 dm1, .bool sm2, .slice pm2 km2 cm2, .slice qm2 jm2 dm2, .bool sm3, .slice pm3 km3 cm3, .slice qm3 jm3 dm3, .bool sm4, .slice pm4 km4 cm4, .slice qm4 jm4 dm4, .bool sm5, .slice pm5 km5 cm5, .slice qm5 jm5 dm5, .bool sm6, .slice pm6 km6 cm6, .slice qm6 jm6 dm6] 72)).alloc (.cells #[.bool false, .slice none 0 0, .slice none 0 0, .bool false, .slice none 0 0, .slice none 0 0] 28) = W := ⟨_, rfl⟩
  rw [hW] at hXp0 hXR hbw ⊢
  obtain ⟨Xp0, eXp0⟩ : ∃ X, w.heap.size = X := ⟨_, rfl⟩
  obtain ⟨XR, eXR⟩ : ∃ X, Xp0 + 1 = X := ⟨_, rfl⟩
  rw [eXp0, eXR]
  rw [eXp0] at hXp0 hXR
  rw [eXR] at hXR
  have HXp0 := Lib.hid hXp0
  have HXR := Lib.hid hXR
  have HBW := Lib.hid hbw
  have HGEXp0 : Hid (w.heap.size ≤ Xp0) := by unfold Hid; omega
  have HGEXR : Hid (w.heap.size ≤ XR) := by unfold Hid; omega
  have HLT : Hid (Xp0 < XR) := by unfold Hid; omega
  clear hW hbw hXp0 hXR eXp0 eXR
  refine line_region 5 [[], [0], [], [2], [1, 3]] [.is (.pointer (some ⟨Xp0, 0, none⟩)), .is (.agg #[.bool sm1, .slice pm1 km1 cm1, .slice qm1 jm1 dm1]), .is (.pointer (some ⟨Xp0, 3, none⟩)), .is (.agg #[.bool sm2, .slice pm2 km2 cm2, .slice qm2 jm2 dm2]), .has (fun v w => PS nm w v am bm)] rfl rfl (by decide) (by simp only [Steady]; exact ⟨fun _ _ _ h hb => h.bel hb, trivial⟩) ?_
  simp only [List.take_succ_cons, List.take_zero, List.drop_succ_cons, List.drop_zero]
  refine fV (by rfl) (by intro w1 hw1 hk1; go_simp) ?_
  simp only [Act.put, sA, sB, sC]
  refine fV (by rfl) (fun w1 hw1 _ => load_at rfl rfl (hw1.heap HXp0.out) rfl Tryz.underlying26 rfl (by kernel_rfl)) ?_
  simp only [Act.put, sA, sB, sC]
  refine fV (by rfl) (by intro w1 hw1 hk1; go_simp) ?_
  simp only [Act.put, sA, sB, sC]
  refine fV (by rfl) (fun w1 hw1 _ => load_at rfl rfl (hw1.heap HXp0.out) rfl Tryz.underlying26 rfl (by kernel_rfl)) ?_
  simp only [Act.put, sA, sB, sC]
  refine flow_has (by intro w1 hw1 hk1; refine want (by rfl) (gives_of (c := .agg #[.bool sm1, .slice pm1 km1 cm1, .slice qm1 jm1 dm1, .bool sm2, .slice pm2 km2 cm2, .slice qm2 jm2 dm2]) (by go_simp) ?_); exact ps_mk (HPm1.out.bel (HBW.out.trans hw1)) (HPm2.out.bel (HBW.out.trans hw1))) (fun v4 => ?_)
  simp only [Act.put, sA, sB, sC]
  intro W1 hW1 hk1
  obtain ⟨g4, -⟩ := hk1
  obtain ⟨sr4_1x1, pr4_1x1, kr4_1x1, cr4_1x1, qr4_1x1, jr4_1x1, dr4_1x1, sr4_1x2, pr4_1x2, kr4_1x2, cr4_1x2, qr4_1x2, jr4_1x2, dr4_1x2, rfl, g4_1, g4_2⟩ := g4.parts
  have HV := Lib.hid g4
  have hfb := Lib.hid (HBW.out.trans hW1)
  have hhX := hW1.heap HXR.out
  have HHX := Lib.hid hhX
  clear hhX hW1 g4
  have ht := stoW (w := w) (t := 28) [.bool sr4_1x1, .slice pr4_1x1 kr4_1x1 cr4_1x1, .slice qr4_1x1 jr4_1x1 dr4_1x1, .bool sr4_1x2, .slice pr4_1x2 kr4_1x2 cr4_1x2, .slice qr4_1x2 jr4_1x2 dr4_1x2] HHX.out hfb.out rfl rfl HGEXR.out
  refine lt_store rfl rfl rfl rfl HHX.out rfl (by kernel_rfl) rfl rfl ?_
  generalize hWR : World.setCells _ _ _ _ = WR
  go_wp2
  rw [hWR] at ht
  exact bodyPost_ret (results_cell_row Tryz.results108 _ _ XR _ _ _ _ rfl ht.heap Tryz.underlying28 rfl (by kernel_rfl)) rfl ⟨_, rfl, ht.bel, HV.out.lim ht.lim⟩
set_option maxHeartbeats 4000000 in
set_option maxRecDepth 100000 in
theorem au_my {w : World} {m : Value} {am bm cm dm em fm : Rat} {nm : Nat} (hm : MS nm w m am bm cm dm em fm) (hl : 1 * (nm) + 1 < LimK) : Calls Tryz.prog 109 #[m] w (Makes w fun v w' => PS nm w' v cm dm) := by
  clear hl
  obtain ⟨sm1, pm1, km1, cm1, qm1, jm1, dm1, sm2, pm2, km2, cm2, qm2, jm2, dm2, sm3, pm3, km3, cm3, qm3, jm3, dm3, sm4, pm4, km4, cm4, qm4, jm4, dm4, sm5, pm5, km5, cm5, qm5, jm5, dm5, sm6, pm6, km6, cm6, qm6, jm6, dm6, rfl, hm1, hm2, hm3, hm4, hm5, hm6⟩ := hm.parts
  have HPm := Lib.hid hm
  have HPm1 := Lib.hid hm1
  have HPm2 := Lib.hid hm2
  have HPm3 := Lib.hid hm3
  have HPm4 := Lib.hid hm4
  have HPm5 := Lib.hid hm5
  have HPm6 := Lib.hid hm6
  clear hm hm1 hm2 hm3 hm4 hm5 hm6
  go_enter Tryz.func109, Tryz.ntmps109
  go_upto_region 1 with fail
  obtain ⟨hXp0, hXR, hbw⟩ := boxes2 w (.cells #[.bool sm1, .slice pm1 km1 cm1, .slice qm1 jm1 dm1, .bool sm2, .slice pm2 km2 cm2, .slice qm2 jm2 dm2, .bool sm3, .slice pm3 km3 cm3, .slice qm3 jm3 dm3, .bool sm4, .slice pm4 km4 cm4, .slice qm4 jm4 dm4, .bool sm5, .slice pm5 km5 cm5, .slice qm5 jm5 dm5, .bool sm6, .slice pm6 km6 cm6, .slice qm6 jm6 dm6] 72) (.cells #[.bool false, .slice none 0 0, .slice none 0 0, .bool false, .slice none 0 0, .slice none 0 0] 28)
  obtain ⟨W, hW⟩ : ∃ W, (w.alloc (.cells #[.bool sm1, .slice pm1 km1 cm1, .slice qm1 jm1 dm1, .bool sm2, .slice pm2 km2 cm2, .slice qm2 jm2 dm2, .bool sm3, .slice pm3 km3 cm3, .slice qm3 jm3 dm3, .bool sm4, .slice pm4 km4 cm4, .slice qm4 jm4 dm4, .bool sm5, .slice pm5 km5 cm5, .slice qm5 jm5 dm5, .bool sm6, .slice pm6 km6 cm6, .slice qm6 jm6 dm6] 72)).alloc (.cells #[.bool false, .slice none 0 0, .slice none 0 0, .bool false, .slice none 0 0, .slice none 0 0] 28) = W := ⟨_, rfl⟩
  rw [hW] at hXp0 hXR hbw ⊢
  obtain ⟨Xp0, eXp0⟩ : ∃ X, w.heap.size = X := ⟨_, rfl⟩
  obtain ⟨XR, eXR⟩ : ∃ X, Xp0 + 1 = X := ⟨_, rfl⟩
  rw [eXp0, eXR]
  rw [eXp0] at hXp0 hXR
  rw [eXR] at hXR
  have HXp0 := Lib.hid hXp0
  have HXR := Lib.hid hXR
  have HBW := Lib.hid hbw
  have HGEXp0 : Hid (w.heap.size ≤ Xp0) := by unfold Hid; omega
  have HGEXR : Hid (w.heap.size ≤ XR) := by unfold Hid; omega
  have HLT : Hid (Xp0 < XR) := by unfold Hid; omega
  clear hW hbw hXp0 hXR eXp0 eXR
  refine line_region 5 [[], [0], [], [2], [1, 3]] [.is (.pointer (some ⟨Xp0, 6, none⟩)), .is (.agg #[.bool sm3, .slice pm3 km3 cm3, .slice qm3 jm3 dm3]), .is (.pointer (some ⟨Xp0, 9, none⟩)), .is (.agg #[.bool sm4, .slice pm4 km4 cm4, .slice qm4 jm4 dm4]), .has (fun v w => PS nm w v cm dm)] rfl rfl (by decide) (by simp only [Steady]; exact ⟨fun _ _ _ h hb => h.bel hb, trivial⟩) ?_
  simp only [List.take_succ_cons, List.take_zero, List.drop_succ_cons, List.drop_zero]
  refine fV (by rfl) (by intro w1 hw1 hk1; go_simp) ?_
  simp only [Act.put, sA, sB, sC]
  refine fV (by rfl) (fun w1 hw1 _ => load_at rfl rfl (hw1.heap HXp0.out) rfl Tryz.underlying26 rfl (by kernel_rfl)) ?_
  simp only [Act.put, sA, sB, sC]
  refine fV (by rfl) (by intro w1 hw1 hk1; go_simp) ?_
  simp only [Act.put, sA, sB, sC]
  refine fV (by rfl) (fun w1 hw1 _ => load_at rfl rfl (hw1.heap HXp0.out) rfl Tryz.underlying26 rfl (by kernel_rfl)) ?_
  simp only [Act.put, sA, sB, sC]
  refine flow_has (by intro w1 hw1 hk1; refine want (by rfl) (gives_of (c := .agg #[.bool sm3, .slice pm3 km3 cm3, .slice qm3 jm3 dm3, .bool sm4, .slice pm4 km4 cm4, .slice qm4 jm4 dm4]) (by go_simp) ?_); exact ps_mk (HPm3.out.bel (HBW.out.trans hw1)) (HPm4.out.bel (HBW.out.trans hw1))) (fun v4 => ?_)
  simp only [Act.put, sA, sB, sC]
  intro W1 hW1 hk1
  obtain ⟨g4, -⟩ := hk1
  obtain ⟨sr4_1x1, pr4_1x1, kr4_1x1, cr4_1x1, qr4_1x1, jr4_1x1, dr4_1x1, sr4_1x2, pr4_1x2, kr4_1x2, cr4_1x2, qr4_1x2, jr4_1x2, dr4_1x2, rfl, g4_1, g4_2⟩ := g4.parts
  have HV := Lib.hid g4
  have hfb := Lib.hid (HBW.out.trans hW1)
  have hhX := hW1.heap HXR.out
  have HHX := Lib.hid hhX
  clear hhX hW1 g4
  have ht := stoW (w := w) (t := 28) [.bool sr4_1x1, .slice pr4_1x1 kr4_1x1 cr4_1x1, .slice qr4_1x1 jr4_1x1 dr4_1x1, .bool sr4_1x2, .slice pr4_1x2 kr4_1x2 cr4_1x2, .slice qr4_1x2 jr4_1x2 dr4_1x2] HHX.out hfb.out rfl rfl HGEXR.out
  refine lt_store rfl rfl rfl rfl HHX.out rfl (by kernel_rfl) rfl rfl ?_
  generalize hWR : World.setCells _ _ _ _ = WR
  go_wp2
  rw [hWR] at ht
  exact bodyPost_ret (results_cell_row Tryz.results109 _ _ XR _ _ _ _ rfl ht.heap Tryz.underlying28 rfl (by kernel_rfl)) rfl ⟨_, rfl, ht.bel, HV.out.lim ht.lim⟩
set_option maxHeartbeats 4000000 in
set_option maxRecDepth 100000 in
theorem au_mshift {w : World} {m : Value} {am bm cm dm em fm : Rat} {nm : Nat} (hm : MS nm w m am bm cm dm em fm) (hl : 1 * (nm) + 1 < LimK) : Calls Tryz.prog 102 #[m] w (Makes w fun v w' => PS nm w' v em fm) := by
  clear hl
  obtain ⟨sm1, pm1, km1, cm1, qm1, jm1, dm1, sm2, pm2, km2, cm2, qm2, jm2, dm2, sm3, pm3, km3, cm3, qm3, jm3, dm3, sm4, pm4, km4, cm4, qm4, jm4, dm4, sm5, pm5, km5, cm5, qm5, jm5, dm5, sm6, pm6, km6, cm6, qm6, jm6, dm6, rfl, hm1, hm2, hm3, hm4, hm5, hm6⟩ := hm.parts
  have HPm := Lib.hid hm
  have HPm1 := Lib.hid hm1
  have HPm2 := Lib.hid hm2
  have HPm3 := Lib.hid hm3
  have HPm4 := Lib.hid hm4
  have HPm5 := Lib.hid hm5
  have HPm6 := Lib.hid hm6
  clear hm hm1 hm2 hm3 hm4 hm5 hm6
  go_enter Tryz.func102, Tryz.ntmps102
  go_upto_region 1 with fail
  obtain ⟨hXp0, hXR, hbw⟩ := boxes2 w (.cells #[.bool sm1, .slice pm1 km1 cm1, .slice qm1 jm1 dm1, .bool sm2, .slice pm2 km2 cm2, .slice qm2 jm2 dm2, .bool sm3, .slice pm3 km3 cm3, .slice qm3 jm3 dm3, .bool sm4, .slice pm4 km4 cm4, .slice qm4 jm4 dm4, .bool sm5, .slice pm5 km5 cm5, .slice qm5 jm5 dm5, .bool sm6, .slice pm6 km6 cm6, .slice qm6 jm6 dm6] 72) (.cells #[.bool false, .slice none 0 0, .slice none 0 0, .bool false, .slice none 0 0, .slice none 0 0] 28)
  obtain ⟨W, hW⟩ : ∃ W, (w.alloc (.cells #[.bool sm1, .slice pm1 km1 cm1, .slice qm1 jm1 dm1, .bool sm2, .slice pm2 km2 cm2, .slice qm2 jm2 dm2, .bool sm3, .slice pm3 km3 cm3, .slice qm3 jm3 dm3, .bool sm4, .slice pm4 km4 cm4, .slice qm4 jm4 dm4, .bool sm5, .slice pm5 km5 cm5, .slice qm5 jm5 dm5, .bool sm6, .slice pm6 km6 cm6, .slice qm6 jm6 dm6] 72)).alloc (.cells #[.bool false, .slice none 0 0, .slice none 0 0, .bool false, .slice none 0 0, .slice none 0 0] 28) = W := ⟨_, rfl⟩
  rw [hW] at hXp0 hXR hbw ⊢
  obtain ⟨Xp0, eXp0⟩ : ∃ X, w.heap.size = X := ⟨_, rfl⟩
  obtain ⟨XR, eXR⟩ : ∃ X, Xp0 + 1 = X := ⟨_, rfl⟩
  rw [eXp0, eXR]
  rw [eXp0] at hXp0 hXR
  rw [eXR] at hXR
  have HXp0 := Lib.hid hXp0
  have HXR := Lib.hid hXR
  have HBW := Lib.hid hbw
  have HGEXp0 : Hid (w.heap.size ≤ Xp0) := by unfold Hid; omega
  have HGEXR : Hid (w.heap.size ≤ XR) := by unfold Hid; omega
  have HLT : Hid (Xp0 < XR) := by unfold Hid; omega
  clear hW hbw hXp0 hXR eXp0 eXR
  refine line_region 5 [[], [0], [], [2], [1, 3]] [.is (.pointer (some ⟨Xp0, 12, none⟩)), .is (.agg #[.bool sm5, .slice pm5 km5 cm5, .slice qm5 jm5 dm5]), .is (.pointer (some ⟨Xp0, 15, none⟩)), .is (.agg #[.bool sm6, .slice pm6 km6 cm6, .slice qm6 jm6 dm6]), .has (fun v w => PS nm w v em fm)] rfl rfl (by decide) (by simp only [Steady]; exact ⟨fun _ _ _ h hb => h.bel hb, trivial⟩) ?_
  simp only [List.take_succ_cons, List.take_zero, List.drop_succ_cons, List.drop_zero]
  refine fV (by rfl) (by intro w1 hw1 hk1; go_simp) ?_
  simp only [Act.put, sA, sB, sC]
  refine fV (by rfl) (fun w1 hw1 _ => load_at rfl rfl (hw1.heap HXp0.out) rfl Tryz.underlying26 rfl (by kernel_rfl)) ?_
  simp only [Act.put, sA, sB, sC]
  refine fV (by rfl) (by intro w1 hw1 hk1; go_simp) ?_
  simp only [Act.put, sA, sB, sC]
  refine fV (by rfl) (fun w1 hw1 _ => load_at rfl rfl (hw1.heap HXp0.out) rfl Tryz.underlying26 rfl (by kernel_rfl)) ?_
  simp only [Act.put, sA, sB, sC]
  refine flow_has (by intro w1 hw1 hk1; refine want (by rfl) (gives_of (c := .agg #[.bool sm5, .slice pm5 km5 cm5, .slice qm5 jm5 dm5, .bool sm6, .slice pm6 km6 cm6, .slice qm6 jm6 dm6]) (by go_simp) ?_); exact ps_mk (HPm5.out.bel (HBW.out.trans hw1)) (HPm6.out.bel (HBW.out.trans hw1))) (fun v4 => ?_)
  simp only [Act.put, sA, sB, sC]
  intro W1 hW1 hk1
  obtain ⟨g4, -⟩ := hk1
  obtain ⟨sr4_1x1, pr4_1x1, kr4_1x1, cr4_1x1, qr4_1x1, jr4_1x1, dr4_1x1, sr4_1x2, pr4_1x2, kr4_1x2, cr4_1x2, qr4_1x2, jr4_1x2, dr4_1x2, rfl, g4_1, g4_2⟩ := g4.parts
  have HV := Lib.hid g4
  have hfb := Lib.hid (HBW.out.trans hW1)
  have hhX := hW1.heap HXR.out
  have HHX := Lib.hid hhX
  clear hhX hW1 g4
  have ht := stoW (w := w) (t := 28) [.bool sr4_1x1, .slice pr4_1x1 kr4_1x1 cr4_1x1, .slice qr4_1x1 jr4_1x1 dr4_1x1, .bool sr4_1x2, .slice pr4_1x2 kr4_1x2 cr4_1x2, .slice qr4_1x2 jr4_1x2 dr4_1x2] HHX.out hfb.out rfl rfl HGEXR.out
  refine lt_store rfl rfl rfl rfl HHX.out rfl (by kernel_rfl) rfl rfl ?_
  generalize hWR : World.setCells _ _ _ _ = WR
  go_wp2
  rw [hWR] at ht
  exact bodyPost_ret (results_cell_row Tryz.results102 _ _ XR _ _ _ _ rfl ht.heap Tryz.underlying28 rfl (by kernel_rfl)) rfl ⟨_, rfl, ht.bel, HV.out.lim ht.lim⟩
set_option maxHeartbeats 4000000 in
set_option maxRecDepth 100000 in
theorem au_mof {w : World} {x y z : Value} {xx yx xy yy xz yz : Rat} {nx ny nz : Nat} (hx : PS nx w x xx yx) (hy : PS ny w y xy yy) (hz : PS nz w z xz yz) (hl : 1 * (nx + ny + nz) + 1 < LimK) : Calls Tryz.prog 100 #[x, y, z] w (Makes w fun v w' => MS ((nx + ny + nz)) w' v xx yx xy yy xz yz) := by
  clear hl
  obtain ⟨sx1, px1, kx1, cx1, qx1, jx1, dx1, sx2, px2, kx2, cx2, qx2, jx2, dx2, rfl, hx1, hx2⟩ := hx.parts
  have HPx := Lib.hid hx
  have HPx1 := Lib.hid hx1
  have HPx2 := Lib.hid hx2
  clear hx hx1 hx2
  obtain ⟨sy1, py1, ky1, cy1, qy1, jy1, dy1, sy2, py2, ky2, cy2, qy2, jy2, dy2, rfl, hy1, hy2⟩ := hy.parts
  have HPy := Lib.hid hy
  have HPy1 := Lib.hid hy1
  have HPy2 := Lib.hid hy2
  clear hy hy1 hy2
  obtain ⟨sz1, pz1, kz1, cz1, qz1, jz1, dz1, sz2, pz2, kz2, cz2, qz2, jz2, dz2, rfl, hz1, hz2⟩ := hz.parts
  have HPz := Lib.hid hz
  have HPz1 := Lib.hid hz1
  have HPz2 := Lib.hid hz2
  clear hz hz1 hz2
  go_enter Tryz.func100, Tryz.ntmps100
  go_upto_region 1 with fail
  obtain ⟨hXp0, hXp1, hXp2, hXR, hbw⟩ := boxes4 w (.cells #[.bool sx1, .slice px1 kx1 cx1, .slice qx1 jx1 dx1, .bool sx2, .slice px2 kx2 cx2, .slice qx2 jx2 dx2] 28) (.cells #[.bool sy1, .slice py1 ky1 cy1, .slice qy1 jy1 dy1, .bool sy2, .slice py2 ky2 cy2, .slice qy2 jy2 dy2] 28) (.cells #[.bool sz1, .slice pz1 kz1 cz1, .slice qz1 jz1 dz1, .bool sz2, .slice pz2 kz2 cz2, .slice qz2 jz2 dz2] 28) (.cells #[.bool false, .slice none 0 0, .slice none 0 0, .bool false, .slice none 0 0, .slice none 0 0, .bool false, .slice none 0 0, .slice none 0 0, .bool false, .slice none 0 0, .slice none 0 0, .bool false, .slice none 0 0, .slice none 0 0, .bool false, .slice none 0 0, .slice none 0 0] 72)
  obtain ⟨W, hW⟩ : ∃ W, (((w.alloc (.cells #[.bool sx1, .slice px1 kx1 cx1, .slice qx1 jx1 dx1, .bool sx2, .slice px2 kx2 cx2, .slice qx2 jx2 dx2] 28)).alloc (.cells #[.bool sy1, .slice py1 ky1 cy1, .slice qy1 jy1 dy1, .bool sy2, .slice py2 ky2 cy2, .slice qy2 jy2 dy2] 28)).alloc (.cells #[.bool sz1, .slice pz1 kz1 cz1, .slice qz1 jz1 dz1, .bool sz2, .slice pz2 kz2 cz2, .slice qz2 jz2 dz2] 28)).alloc (.cells #[.bool false, .slice none 0 0, .slice none 0 0, .bool false, .slice none 0 0, .slice none 0 0, .bool false, .slice none 0 0, .slice none 0 0, .bool false, .slice none 0 0, .slice none 0 0, .bool false, .slice none 0 0, .slice none 0 0, .bool false, .slice none 0 0, .slice none 0 0] 72) = W := ⟨_, rfl⟩
  rw [hW] at hXp0 hXp1 hXp2 hXR hbw ⊢
  obtain ⟨Xp0, eXp0⟩ : ∃ X, w.heap.size = X := ⟨_, rfl⟩
  obtain ⟨Xp1, eXp1⟩ : ∃ X, Xp0 + 1 = X := ⟨_, rfl⟩
  obtain ⟨Xp2, eXp2⟩ : ∃ X, Xp1 + 1 = X := ⟨_, rfl⟩
  obtain ⟨XR, eXR⟩ : ∃ X, Xp2 + 1 = X := ⟨_, rfl⟩
  rw [eXp0, eXp1, eXp2, eXR]
  rw [eXp0] at hXp0 hXp1 hXp2 hXR
  rw [eXp1] at hXp1 hXp2 hXR
  rw [eXp2] at hXp2 hXR
  rw [eXR] at hXR
  have HXp0 := Lib.hid hXp0
  have HXp1 := Lib.hid hXp1
  have HXp2 := Lib.hid hXp2
  have HXR := Lib.hid hXR
  have HBW := Lib.hid hbw
  have HGEXp0 : Hid (w.heap.size ≤ Xp0) := by unfold Hid; omega
  have HGEXp1 : Hid (w.heap.size ≤ Xp1) := by unfold Hid; omega
  have HGEXp2 : Hid (w.heap.size ≤ Xp2) := by unfold Hid; omega
  have HGEXR : Hid (w.heap.size ≤ XR) := by unfold Hid; omega
  have HLT : Hid (Xp0 < Xp1 ∧ Xp1 < Xp2 ∧ Xp2 < XR) := by unfold Hid; omega
  clear hW hbw hXp0 hXp1 hXp2 hXR eXp0 eXp1 eXp2 eXR
  refine line_region 13 [[], [0], [], [2], [], [4], [], [6], [], [8], [], [10], [1, 3, 5, 7, 9, 11]] [.is (.pointer (some ⟨Xp0, 0, none⟩)), .is (.agg #[.bool sx1, .slice px1 kx1 cx1, .slice qx1 jx1 dx1]), .is (.pointer (some ⟨Xp0, 3, none⟩)), .is (.agg #[.bool sx2, .slice px2 kx2 cx2, .slice qx2 jx2 dx2]), .is (.pointer (some ⟨Xp1, 0, none⟩)), .is (.agg #[.bool sy1, .slice py1 ky1 cy1, .slice qy1 jy1 dy1]), .is (.pointer (some ⟨Xp1, 3, none⟩)), .is (.agg #[.bool sy2, .slice py2 ky2 cy2, .slice qy2 jy2 dy2]), .is (.pointer (some ⟨Xp2, 0, none⟩)), .is (.agg #[.bool sz1, .slice pz1 kz1 cz1, .slice qz1 jz1 dz1]), .is (.pointer (some ⟨Xp2, 3, none⟩)), .is (.agg #[.bool sz2, .slice pz2 kz2 cz2, .slice qz2 jz2 dz2]), .has (fun v w => MS ((nx + ny + nz)) w v xx yx xy yy xz yz)] rfl rfl (by decide) (by simp only [Steady]; exact ⟨fun _ _ _ h hb => h.bel hb, trivial⟩) ?_
  simp only [List.take_succ_cons, List.take_zero, List.drop_succ_cons, List.drop_zero]
  refine fV (by rfl) (by intro w1 hw1 hk1; go_simp) ?_
  simp only [Act.put, sA, sB, sC]
  refine fV (by rfl) (fun w1 hw1 _ => load_at rfl rfl (hw1.heap HXp0.out) rfl Tryz.underlying26 rfl (by kernel_rfl)) ?_
  simp only [Act.put, sA, sB, sC]
  refine fV (by rfl) (by intro w1 hw1 hk1; go_simp) ?_
  simp only [Act.put, sA, sB, sC]
  refine fV (by rfl) (fun w1 hw1 _ => load_at rfl rfl (hw1.heap HXp0.out) rfl Tryz.underlying26 rfl (by kernel_rfl)) ?_
  simp only [Act.put, sA, sB, sC]
  refine fV (by rfl) (by intro w1 hw1 hk1; go_simp) ?_
  simp only [Act.put, sA, sB, sC]
  refine fV (by rfl) (fun w1 hw1 _ => load_at rfl rfl (hw1.heap HXp1.out) rfl Tryz.underlying26 rfl (by kernel_rfl)) ?_
  simp only [Act.put, sA, sB, sC]
  refine fV (by rfl) (by intro w1 hw1 hk1; go_simp) ?_
  simp only [Act.put, sA, sB, sC]
  refine fV (by rfl) (fun w1 hw1 _ => load_at rfl rfl (hw1.heap HXp1.out) rfl Tryz.underlying26 rfl (by kernel_rfl)) ?_
  simp only [Act.put, sA, sB, sC]
  refine fV (by rfl) (by intro w1 hw1 hk1; go_simp) ?_
  simp only [Act.put, sA, sB, sC]
  refine fV (by rfl) (fun w1 hw1 _ => load_at rfl rfl (hw1.heap HXp2.out) rfl Tryz.underlying26 rfl (by kernel_rfl)) ?_
  simp only [Act.put, sA, sB, sC]
  refine fV (by rfl) (by intro w1 hw1 hk1; go_simp) ?_
  simp only [Act.put, sA, sB, sC]
  refine fV (by rfl) (fun w1 hw1 _ => load_at rfl rfl (hw1.heap HXp2.out) rfl Tryz.underlying26 rfl (by kernel_rfl)) ?_
  simp only [Act.put, sA, sB, sC]
  refine flow_has (by intro w1 hw1 hk1; refine want (by rfl) (gives_of (c := .agg #[.bool sx1, .slice px1 kx1 cx1, .slice qx1 jx1 dx1, .bool sx2, .slice px2 kx2 cx2, .slice qx2 jx2 dx2, .bool sy1, .slice py1 ky1 cy1, .slice qy1 jy1 dy1, .bool sy2, .slice py2 ky2 cy2, .slice qy2 jy2 dy2, .bool sz1, .slice pz1 kz1 cz1, .slice qz1 jz1 dz1, .bool sz2, .slice pz2 kz2 cz2, .slice qz2 jz2 dz2]) (by go_simp) ?_); exact ms_mk ((HPx1.out.bel (HBW.out.trans hw1)).mono (by omega)) ((HPx2.out.bel (HBW.out.trans hw1)).mono (by omega)) ((HPy1.out.bel (HBW.out.trans hw1)).mono (by omega)) ((HPy2.out.bel (HBW.out.trans hw1)).mono (by omega)) ((HPz1.out.bel (HBW.out.trans hw1)).mono (by omega)) ((HPz2.out.bel (HBW.out.trans hw1)).mono (by omega))) (fun v12 => ?_)
  simp only [Act.put, sA, sB, sC]
  intro W1 hW1 hk1
  obtain ⟨g12, -⟩ := hk1
  obtain ⟨sr12_1x1, pr12_1x1, kr12_1x1, cr12_1x1, qr12_1x1, jr12_1x1, dr12_1x1, sr12_1x2, pr12_1x2, kr12_1x2, cr12_1x2, qr12_1x2, jr12_1x2, dr12_1x2, sr12_1x3, pr12_1x3, kr12_1x3, cr12_1x3, qr12_1x3, jr12_1x3, dr12_1x3, sr12_1x4, pr12_1x4, kr12_1x4, cr12_1x4, qr12_1x4, jr12_1x4, dr12_1x4, sr12_1x5, pr12_1x5, kr12_1x5, cr12_1x5, qr12_1x5, jr12_1x5, dr12_1x5, sr12_1x6, pr12_1x6, kr12_1x6, cr12_1x6, qr12_1x6, jr12_1x6, dr12_1x6, rfl, g12_1, g12_2, g12_3, g12_4, g12_5, g12_6⟩ := g12.parts
  have HV := Lib.hid g12
  have hfb := Lib.hid (HBW.out.trans hW1)
  have hhX := hW1.heap HXR.out
  have HHX := Lib.hid hhX
  clear hhX hW1 g12
  have ht := stoW (w := w) (t := 72) [.bool sr12_1x1, .slice pr12_1x1 kr12_1x1 cr12_1x1, .slice qr12_1x1 jr12_1x1 dr12_1x1, .bool sr12_1x2, .slice pr12_1x2 kr12_1x2 cr12_1x2, .slice qr12_1x2 jr12_1x2 dr12_1x2, .bool sr12_1x3, .slice pr12_1x3 kr12_1x3 cr12_1x3, .slice qr12_1x3 jr12_1x3 dr12_1x3, .bool sr12_1x4, .slice pr12_1x4 kr12_1x4 cr12_1x4, .slice qr12_1x4 jr12_1x4 dr12_1x4, .bool sr12_1x5, .slice pr12_1x5 kr12_1x5 cr12_1x5, .slice qr12_1x5 jr12_1x5 dr12_1x5, .bool sr12_1x6, .slice pr12_1x6 kr12_1x6 cr12_1x6, .slice qr12_1x6 jr12_1x6 dr12_1x6] HHX.out hfb.out rfl rfl HGEXR.out
  refine lt_store rfl rfl rfl rfl HHX.out rfl (by kernel_rfl) rfl rfl ?_
  generalize hWR : World.setCells _ _ _ _ = WR
  go_wp2
  rw [hWR] at ht
  exact bodyPost_ret (results_cell_row Tryz.results100 _ _ XR _ _ _ _ rfl ht.heap Tryz.underlying72 rfl (by kernel_rfl)) rfl ⟨_, rfl, ht.bel, HV.out.lim ht.lim⟩
set_option maxHeartbeats 4000000 in
set_option maxRecDepth 100000 in
theorem au_mofn {w : World} {x y z : Value} {xx yx xy yy xz yz : Rat} {nx ny nz : Nat} (hx : PN nx w x xx yx) (hy : PN ny w y xy yy) (hz : PN nz w z xz yz) (hl : 1 * (nx + ny + nz) + 1 < LimK) : Calls Tryz.prog 100 #[x, y, z] w (Makes w fun v w' => MN ((nx + ny + nz)) w' v xx yx xy yy xz yz) := by
  clear hl
  obtain ⟨sx1, px1, kx1, cx1, qx1, jx1, dx1, sx2, px2, kx2, cx2, qx2, jx2, dx2, rfl, hx1, hx2⟩ := hx.parts
  have HPx := Lib.hid hx
  have HPx1 := Lib.hid hx1
  have HPx2 := Lib.hid hx2
  clear hx hx1 hx2
  obtain ⟨sy1, py1, ky1, cy1, qy1, jy1, dy1, sy2, py2, ky2, cy2, qy2, jy2, dy2, rfl, hy1, hy2⟩ := hy.parts
  have HPy := Lib.hid hy
  have HPy1 := Lib.hid hy1
  have HPy2 := Lib.hid hy2
  clear hy hy1 hy2
  obtain ⟨sz1, pz1, kz1, cz1, qz1, jz1, dz1, sz2, pz2, kz2, cz2, qz2, jz2, dz2, rfl, hz1, hz2⟩ := hz.parts
  have HPz := Lib.hid hz
  have HPz1 := Lib.hid hz1
  have HPz2 := Lib.hid hz2
  clear hz hz1 hz2
  go_enter Tryz.func100, Tryz.ntmps100
  go_upto_region 1 with fail
  obtain ⟨hXp0, hXp1, hXp2, hXR, hbw⟩ := boxes4 w (.cells #[.bool sx1, .slice px1 kx1 cx1, .slice qx1 jx1 dx1, .bool sx2, .slice px2 kx2 cx2, .slice qx2 jx2 dx2] 28) (.cells #[.bool sy1, .slice py1 ky1 cy1, .slice qy1 jy1 dy1, .bool sy2, .slice py2 ky2 cy2, .slice qy2 jy2 dy2] 28) (.cells #[.bool sz1, .slice pz1 kz1 cz1, .slice qz1 jz1 dz1, .bool sz2, .slice pz2 kz2 cz2, .slice qz2 jz2 dz2] 28) (.cells #[.bool false, .slice none 0 0, .slice none 0 0, .bool false, .slice none 0 0, .slice none 0 0, .bool false, .slice none 0 0, .slice none 0 0, .bool false, .slice none 0 0, .slice none 0 0, .bool false, .slice none 0 0, .slice none 0 0, .bool false, .slice none 0 0, .slice none 0 0] 72)
  obtain ⟨W, hW⟩ : ∃ W, (((w.alloc (.cells #[.bool sx1, .slice px1 kx1 cx1, .slice qx1 jx1 dx1, .bool sx2, .slice px2 kx2 cx2, .slice qx2 jx2 dx2] 28)).alloc (.cells #[.bool sy1, .slice py1 ky1 cy1, .slice qy1 jy1 dy1, .bool sy2, .slice py2 ky2 cy2, .slice qy2 jy2 dy2] 28)).alloc (.cells #[.bool sz1, .slice pz1 kz1 cz1, .slice qz1 jz1 dz1, .bool sz2, .slice pz2 kz2 cz2, .slice qz2 jz2 dz2] 28)).alloc (.cells #[.bool false, .slice none 0 0, .slice none 0 0, .bool false, .slice none 0 0, .slice none 0 0, .bool false, .slice none 0 0, .slice none 0 0, .bool false, .slice none 0 0, .slice none 0 0, .bool false, .slice none 0 0, .slice none 0 0, .bool false, .slice none 0 0, .slice none 0 0] 72) = W := ⟨_, rfl⟩
  rw [hW] at hXp0 hXp1 hXp2 hXR hbw ⊢
  obtain ⟨Xp0, eXp0⟩ : ∃ X, w.heap.size = X := ⟨_, rfl⟩
  obtain ⟨Xp1, eXp1⟩ : ∃ X, Xp0 + 1 = X := ⟨_, rfl⟩
  obtain ⟨Xp2, eXp2⟩ : ∃ X, Xp1 + 1 = X := ⟨_, rfl⟩
  obtain ⟨XR, eXR⟩ : ∃ X, Xp2 + 1 = X := ⟨_, rfl⟩
  rw [eXp0, eXp1, eXp2, eXR]
  rw [eXp0] at hXp0 hXp1 hXp2 hXR
  rw [eXp1] at hXp1 hXp2 hXR
  rw [eXp2] at hXp2 hXR
  rw [eXR] at hXR
  have HXp0 := Lib.hid hXp0
  have HXp1 := Lib.hid hXp1
  have HXp2 := Lib.hid hXp2
  have HXR := Lib.hid hXR
  have HBW := Lib.hid hbw
  have HGEXp0 : Hid (w.heap.size ≤ Xp0) := by unfold Hid; omega
  have HGEXp1 : Hid (w.heap.size ≤ Xp1) := by unfold Hid; omega
  have HGEXp2 : Hid (w.heap.size ≤ Xp2) := by unfold Hid; omega
  have HGEXR : Hid (w.heap.size ≤ XR) := by unfold Hid; omega
  have HLT : Hid (Xp0 < Xp1 ∧ Xp1 < Xp2 ∧ Xp2 < XR) := by unfold Hid; omega
  clear hW hbw hXp0 hXp1 hXp2 hXR eXp0 eXp1 eXp2 eXR
  refine line_region 13 [[], [0], [], [2], [], [4], [], [6], [], [8], [], [10], [1, 3, 5, 7, 9, 11]] [.is (.pointer (some ⟨Xp0, 0, none⟩)), .is (.agg #[.bool sx1, .slice px1 kx1 cx1, .slice qx1 jx1 dx1]), .is (.pointer (some ⟨Xp0, 3, none⟩)), .is (.agg #[.bool sx2, .slice px2 kx2 cx2, .slice qx2 jx2 dx2]), .is (.pointer (some ⟨Xp1, 0, none⟩)), .is (.agg #[.bool sy1, .slice py1 ky1 cy1, .slice qy1 jy1 dy1]), .is (.pointer (some ⟨Xp1, 3, none⟩)), .is (.agg #[.bool sy2, .slice py2 ky2 cy2, .slice qy2 jy2 dy2]), .is (.pointer (some ⟨Xp2, 0, none⟩)), .is (.agg #[.bool sz1, .slice pz1 kz1 cz1, .slice qz1 jz1 dz1]), .is (.pointer (some ⟨Xp2, 3, none⟩)), .is (.agg #[.bool sz2, .slice pz2 kz2 cz2, .slice qz2 jz2 dz2]), .has (fun v w => MN ((nx + ny + nz)) w v xx yx xy yy xz yz)] rfl rfl (by decide) (by simp only [Steady]; exact ⟨fun _ _ _ h hb => h.bel hb, trivial⟩) ?_
  simp only [List.take_succ_cons, List.take_zero, List.drop_succ_cons, List.drop_zero]
  refine fV (by rfl) (by intro w1 hw1 hk1; go_simp) ?_
  simp only [Act.put, sA, sB, sC]
  refine fV (by rfl) (fun w1 hw1 _ => load_at rfl rfl (hw1.heap HXp0.out) rfl Tryz.underlying26 rfl (by kernel_rfl)) ?_
  simp only [Act.put, sA, sB, sC]
  refine fV (by rfl) (by intro w1 hw1 hk1; go_simp) ?_
  simp only [Act.put, sA, sB, sC]
  refine fV (by rfl) (fun w1 hw1 _ => load_at rfl rfl (hw1.heap HXp0.out) rfl Tryz.underlying26 rfl (by kernel_rfl)) ?_
  simp only [Act.put, sA, sB, sC]
  refine fV (by rfl) (by intro w1 hw1 hk1; go_simp) ?_
  simp only [Act.put, sA, sB, sC]
  refine fV (by rfl) (fun w1 hw1 _ => load_at rfl rfl (hw1.heap HXp1.out) rfl Tryz.underlying26 rfl (by kernel_rfl)) ?_
  simp only [Act.put, sA, sB, sC]
  refine fV (by rfl) (by intro w1 hw1 hk1; go_simp) ?_
  simp only [Act.put, sA, sB, sC]
  refine fV (by rfl) (fun w1 hw1 _ => load_at rfl rfl (hw1.heap HXp1.out) rfl Tryz.underlying26 rfl (by kernel_rfl)) ?_
  simp only [Act.put, sA, sB, sC]
  refine fV (by rfl) (by intro w1 hw1 hk1; go_simp) ?_
  simp only [Act.put, sA, sB, sC]
  refine fV (by rfl) (fun w1 hw1 _ => load_at rfl rfl (hw1.heap HXp2.out) rfl Tryz.underlying26 rfl (by kernel_rfl)) ?_
  simp only [Act.put, sA, sB, sC]
  refine fV (by rfl) (by intro w1 hw1 hk1; go_simp) ?_
  simp only [Act.put, sA, sB, sC]
  refine fV (by rfl) (fun w1 hw1 _ => load_at rfl rfl (hw1.heap HXp2.out) rfl Tryz.underlying26 rfl (by kernel_rfl)) ?_
  simp only [Act.put, sA, sB, sC]
  refine flow_has (by intro w1 hw1 hk1; refine want (by rfl) (gives_of (c := .agg #[.bool sx1, .slice px1 kx1 cx1, .slice qx1 jx1 dx1, .bool sx2, .slice px2 kx2 cx2, .slice qx2 jx2 dx2, .bool sy1, .slice py1 ky1 cy1, .slice qy1 jy1 dy1, .bool sy2, .slice py2 ky2 cy2, .slice qy2 jy2 dy2, .bool sz1, .slice pz1 kz1 cz1, .slice qz1 jz1 dz1, .bool sz2, .slice pz2 kz2 cz2, .slice qz2 jz2 dz2]) (by go_simp) ?_); exact mn_mk ((HPx1.out.bel (HBW.out.trans hw1)).mono (by omega)) ((HPx2.out.bel (HBW.out.trans hw1)).mono (by omega)) ((HPy1.out.bel (HBW.out.trans hw1)).mono (by omega)) ((HPy2.out.bel (HBW.out.trans hw1)).mono (by omega)) ((HPz1.out.bel (HBW.out.trans hw1)).mono (by omega)) ((HPz2.out.bel (HBW.out.trans hw1)).mono (by omega))) (fun v12 => ?_)
  simp only [Act.put, sA, sB, sC]
  intro W1 hW1 hk1
  obtain ⟨g12, -⟩ := hk1
  obtain ⟨sr12_1x1, pr12_1x1, kr12_1x1, cr12_1x1, qr12_1x1, jr12_1x1, dr12_1x1, sr12_1x2, pr12_1x2, kr12_1x2, cr12_1x2, qr12_1x2, jr12_1x2, dr12_1x2, sr12_1x3, pr12_1x3, kr12_1x3, cr12_1x3, qr12_1x3, jr12_1x3, dr12_1x3, sr12_1x4, pr12_1x4, kr12_1x4, cr12_1x4, qr12_1x4, jr12_1x4, dr12_1x4, sr12_1x5, pr12_1x5, kr12_1x5, cr12_1x5, qr12_1x5, jr12_1x5, dr12_1x5, sr12_1x6, pr12_1x6, kr12_1x6, cr12_1x6, qr12_1x6, jr12_1x6, dr12_1x6, rfl, g12_1, g12_2, g12_3, g12_4, g12_5, g12_6⟩ := g12.parts
  have HV := Lib.hid g12
  have hfb := Lib.hid (HBW.out.trans hW1)
  have hhX := hW1.heap HXR.out
  have HHX := Lib.hid hhX
  clear hhX hW1 g12
  have ht := stoW (w := w) (t := 72) [.bool sr12_1x1, .slice pr12_1x1 kr12_1x1 cr12_1x1, .slice qr12_1x1 jr12_1x1 dr12_1x1, .bool sr12_1x2, .slice pr12_1x2 kr12_1x2 cr12_1x2, .slice qr12_1x2 jr12_1x2 dr12_1x2, .bool sr12_1x3, .slice pr12_1x3 kr12_1x3 cr12_1x3, .slice qr12_1x3 jr12_1x3 dr12_1x3, .bool sr12_1x4, .slice pr12_1x4 kr12_1x4 cr12_1x4, .slice qr12_1x4 jr12_1x4 dr12_1x4, .bool sr12_1x5, .slice pr12_1x5 kr12_1x5 cr12_1x5, .slice qr12_1x5 jr12_1x5 dr12_1x5, .bool sr12_1x6, .slice pr12_1x6 kr12_1x6 cr12_1x6, .slice qr12_1x6 jr12_1x6 dr12_1x6] HHX.out hfb.out rfl rfl HGEXR.out
  refine lt_store rfl rfl rfl rfl HHX.out rfl (by kernel_rfl) rfl rfl ?_
  generalize hWR : World.setCells _ _ _ _ = WR
  go_wp2
  rw [hWR] at ht
  exact bodyPost_ret (results_cell_row Tryz.results100 _ _ XR _ _ _ _ rfl ht.heap Tryz.underlying72 rfl (by kernel_rfl)) rfl ⟨_, rfl, ht.bel, HV.out.lim ht.lim⟩
set_option maxHeartbeats 4000000 in
set_option maxRecDepth 100000 in
theorem au_mline {w : World} {m p : Value} {am bm cm dm em fm xp yp : Rat} {nm np : Nat} (hm : MS nm w m am bm cm dm em fm) (hp : PS np w p xp yp) (hl : 4 * (nm + np) + 4 < LimK) : Calls Tryz.prog 101 #[m, p] w (Makes w fun v w' => PN ((nm + np) + (nm + np) + 1) w' v (((am) * xp) + ((cm) * yp)) (((bm) * xp) + ((dm) * yp))) := by
  obtain ⟨R1, hR1⟩ : ∃ Z, am = Z := ⟨_, rfl⟩
  obtain ⟨R2, hR2⟩ : ∃ Z, bm = Z := ⟨_, rfl⟩
  have HC1_1 : Hid (∀ X u0, MS nm X u0 am bm cm dm em fm → Calls Tryz.prog 108 #[u0] X (Makes X fun v w => PS nm w v R1 R2)) := fun X u0 h0 => by subst hR1 hR2; exact au_mx (nm := nm) h0 (by omega)
  obtain ⟨R3, hR3⟩ : ∃ Z, R1 * xp = Z := ⟨_, rfl⟩
  obtain ⟨R4, hR4⟩ : ∃ Z, R2 * xp = Z := ⟨_, rfl⟩
  have HC1_4 : Hid (∀ X u0 u1, PS nm X u0 R1 R2 → RS np X u1 xp → Calls Tryz.prog 25 #[u0, u1] X (Makes X fun v w => PN (nm + np) w v R3 R4)) := fun X u0 u1 h0 h1 => by subst hR3 hR4; exact au_scale (i := nm) (j := np) h0 h1 (by omega)
  obtain ⟨R5, hR5⟩ : ∃ Z, cm = Z := ⟨_, rfl⟩
  obtain ⟨R6, hR6⟩ : ∃ Z, dm = Z := ⟨_, rfl⟩
  have HC1_6 : Hid (∀ X u0, MS nm X u0 am bm cm dm em fm → Calls Tryz.prog 109 #[u0] X (Makes X fun v w => PS nm w v R5 R6)) := fun X u0 h0 => by subst hR5 hR6; exact au_my (nm := nm) h0 (by omega)
  obtain ⟨R7, hR7⟩ : ∃ Z, R5 * yp = Z := ⟨_, rfl⟩
  obtain ⟨R8, hR8⟩ : ∃ Z, R6 * yp = Z := ⟨_, rfl⟩
  have HC1_9 : Hid (∀ X u0 u1, PS nm X u0 R5 R6 → RS np X u1 yp → Calls Tryz.prog 25 #[u0, u1] X (Makes X fun v w => PN (nm + np) w v R7 R8)) := fun X u0 u1 h0 h1 => by subst hR7 hR8; exact au_scale (i := nm) (j := np) h0 h1 (by omega)
  obtain ⟨R9, hR9⟩ : ∃ Z, R3 + R7 = Z := ⟨_, rfl⟩
  obtain ⟨R10, hR10⟩ : ∃ Z, R4 + R8 = Z := ⟨_, rfl⟩
  have HC1_10 : Hid (∀ X u0 u1, PN (nm + np) X u0 R3 R4 → PN (nm + np) X u1 R7 R8 → Calls Tryz.prog 21 #[u0, u1] X (Makes X fun v w => PN ((nm + np) + (nm + np) + 1) w v R9 R10)) := fun X u0 u1 h0 h1 => by subst hR9 hR10; exact au_padd (i := nm + np) (j := nm + np) (h0.ps (by omega)) (h1.ps (by omega)) (by omega)
  suffices HS : Calls Tryz.prog 101 #[m, p] w (Makes w (fun v w' => PN ((nm + np) + (nm + np) + 1) w' v R9 R10)) by
    subst hR10 hR9 hR8 hR7 hR6 hR5 hR4 hR3 hR2 hR1; exact HS
  clear hR1 hR2 hR3 hR4 hR5 hR6 hR7 hR8 hR9 hR10
  clear hl
  obtain ⟨sm1, pm1, km1, cm1, qm1, jm1, dm1, sm2, pm2, km2, cm2, qm2, jm2, dm2, sm3, pm3, km3, cm3, qm3, jm3, dm3, sm4, pm4, km4, cm4, qm4, jm4, dm4, sm5, pm5, km5, cm5, qm5, jm5, dm5, sm6, pm6, km6, cm6, qm6, jm6, dm6, rfl, hm1, hm2, hm3, hm4, hm5, hm6⟩ := hm.parts
  have HPm := Lib.hid hm
  have HPm1 := Lib.hid hm1
  have HPm2 := Lib.hid hm2
  have HPm3 := Lib.hid hm3
  have HPm4 := Lib.hid hm4
  have HPm5 := Lib.hid hm5
  have HPm6 := Lib.hid hm6
  clear hm hm1 hm2 hm3 hm4 hm5 hm6
  obtain ⟨sp1, pp1, kp1, cp1, qp1, jp1, dp1, sp2, pp2, kp2, cp2, qp2, jp2, dp2, rfl, hp1, hp2⟩ := hp.parts
  have HPp := Lib.hid hp
  have HPp1 := Lib.hid hp1
  have HPp2 := Lib.hid hp2
  clear hp hp1 hp2
  go_enter Tryz.func101, Tryz.ntmps101
  go_upto_region 1 with fail
  obtain ⟨hXp0, hXp1, hXR, hbw⟩ := boxes3 w (.cells #[.bool sm1, .slice pm1 km1 cm1, .slice qm1 jm1 dm1, .bool sm2, .slice pm2 km2 cm2, .slice qm2 jm2 dm2, .bool sm3, .slice pm3 km3 cm3, .slice qm3 jm3 dm3, .bool sm4, .slice pm4 km4 cm4, .slice qm4 jm4 dm4, .bool sm5, .slice pm5 km5 cm5, .slice qm5 jm5 dm5, .bool sm6, .slice pm6 km6 cm6, .slice qm6 jm6 dm6] 72) (.cells #[.bool sp1, .slice pp1 kp1 cp1, .slice qp1 jp1 dp1, .bool sp2, .slice pp2 kp2 cp2, .slice qp2 jp2 dp2] 28) (.cells #[.bool false, .slice none 0 0, .slice none 0 0, .bool false, .slice none 0 0, .slice none 0 0] 28)
  obtain ⟨W, hW⟩ : ∃ W, ((w.alloc (.cells #[.bool sm1, .slice pm1 km1 cm1, .slice qm1 jm1 dm1, .bool sm2, .slice pm2 km2 cm2, .slice qm2 jm2 dm2, .bool sm3, .slice pm3 km3 cm3, .slice qm3 jm3 dm3, .bool sm4, .slice pm4 km4 cm4, .slice qm4 jm4 dm4, .bool sm5, .slice pm5 km5 cm5, .slice qm5 jm5 dm5, .bool sm6, .slice pm6 km6 cm6, .slice qm6 jm6 dm6] 72)).alloc (.cells #[.bool sp1, .slice pp1 kp1 cp1, .slice qp1 jp1 dp1, .bool sp2, .slice pp2 kp2 cp2, .slice qp2 jp2 dp2] 28)).alloc (.cells #[.bool false, .slice none 0 0, .slice none 0 0, .bool false, .slice none 0 0, .slice none 0 0] 28) = W := ⟨_, rfl⟩
  rw [hW] at hXp0 hXp1 hXR hbw ⊢
  obtain ⟨Xp0, eXp0⟩ : ∃ X, w.heap.size = X := ⟨_, rfl⟩
  obtain ⟨Xp1, eXp1⟩ : ∃ X, Xp0 + 1 = X := ⟨_, rfl⟩
  obtain ⟨XR, eXR⟩ : ∃ X, Xp1 + 1 = X := ⟨_, rfl⟩
  rw [eXp0, eXp1, eXR]
  rw [eXp0] at hXp0 hXp1 hXR
  rw [eXp1] at hXp1 hXR
  rw [eXR] at hXR
  have HXp0 := Lib.hid hXp0
  have HXp1 := Lib.hid hXp1
  have HXR := Lib.hid hXR
  have HBW := Lib.hid hbw
  have HGEXp0 : Hid (w.heap.size ≤ Xp0) := by unfold Hid; omega
  have HGEXp1 : Hid (w.heap.size ≤ Xp1) := by unfold Hid; omega
  have HGEXR : Hid (w.heap.size ≤ XR) := by unfold Hid; omega
  have HLT : Hid (Xp0 < Xp1 ∧ Xp1 < XR) := by unfold Hid; omega
  clear hW hbw hXp0 hXp1 hXR eXp0 eXp1 eXR
  refine region_flow 11 [[], [0], [], [2], [1, 3], [], [5], [], [7], [6, 8], [4, 9]] [.is (.agg #[.bool sm1, .slice pm1 km1 cm1, .slice qm1 jm1 dm1, .bool sm2, .slice pm2 km2 cm2, .slice qm2 jm2 dm2, .bool sm3, .slice pm3 km3 cm3, .slice qm3 jm3 dm3, .bool sm4, .slice pm4 km4 cm4, .slice qm4 jm4 dm4, .bool sm5, .slice pm5 km5 cm5, .slice qm5 jm5 dm5, .bool sm6, .slice pm6 km6 cm6, .slice qm6 jm6 dm6]), .has (fun v w => PS nm w v R1 R2), .is (.pointer (some ⟨Xp1, 0, none⟩)), .is (.agg #[.bool sp1, .slice pp1 kp1 cp1, .slice qp1 jp1 dp1]), .has (fun v w => PN (nm + np) w v R3 R4), .is (.agg #[.bool sm1, .slice pm1 km1 cm1, .slice qm1 jm1 dm1, .bool sm2, .slice pm2 km2 cm2, .slice qm2 jm2 dm2, .bool sm3, .slice pm3 km3 cm3, .slice qm3 jm3 dm3, .bool sm4, .slice pm4 km4 cm4, .slice qm4 jm4 dm4, .bool sm5, .slice pm5 km5 cm5, .slice qm5 jm5 dm5, .bool sm6, .slice pm6 km6 cm6, .slice qm6 jm6 dm6]), .has (fun v w => PS nm w v R5 R6), .is (.pointer (some ⟨Xp1, 3, none⟩)), .is (.agg #[.bool sp2, .slice pp2 kp2 cp2, .slice qp2 jp2 dp2]), .has (fun v w => PN (nm + np) w v R7 R8), .has (fun v w => PN ((nm + np) + (nm + np) + 1) w v R9 R10)] (by kernel_rfl) (by kernel_rfl) rfl (by simp only [Steady]; exact ⟨fun _ _ _ h hb => h.bel hb, fun _ _ _ h hb => h.bel hb, fun _ _ _ h hb => h.bel hb, fun _ _ _ h hb => h.bel hb, fun _ _ _ h hb => h.bel hb, trivial⟩) ?_
  simp only [List.take_succ_cons, List.take_zero, List.drop_succ_cons, List.drop_zero]
  refine fV (by rfl) (fun w1 hw1 _ => load_at rfl rfl (hw1.heap HXp0.out) rfl Tryz.underlying72 rfl (by kernel_rfl)) ?_
  simp only [Act.put, sA, sB, sC]
  refine fH (by rfl) (by intro w1 hw1 hk1; exact HC1_1.out _ _ (HPm.out.bel (HBW.out.trans hw1))) (by intro; go_simp) (fun v1 => ?_)
  simp only [Act.put, sA, sB, sC]
  refine fV (by rfl) (by intro w1 hw1 hk1; go_simp) ?_
  simp only [Act.put, sA, sB, sC]
  refine fV (by rfl) (fun w1 hw1 _ => load_at rfl rfl (hw1.heap HXp1.out) rfl Tryz.underlying26 rfl (by kernel_rfl)) ?_
  simp only [Act.put, sA, sB, sC]
  refine fH (by rfl) (by intro w1 hw1 hk1; obtain ⟨g1, -⟩ := hk1; exact HC1_4.out _ _ _ g1 (HPp1.out.bel (HBW.out.trans hw1))) (by intro; go_simp) (fun v4 => ?_)
  simp only [Act.put, sA, sB, sC]
  refine fV (by rfl) (fun w1 hw1 _ => load_at rfl rfl (hw1.heap HXp0.out) rfl Tryz.underlying72 rfl (by kernel_rfl)) ?_
  simp only [Act.put, sA, sB, sC]
  refine fH (by rfl) (by intro w1 hw1 hk1; exact HC1_6.out _ _ (HPm.out.bel (HBW.out.trans hw1))) (by intro; go_simp) (fun v6 => ?_)
  simp only [Act.put, sA, sB, sC]
  refine fV (by rfl) (by intro w1 hw1 hk1; go_simp) ?_
  simp only [Act.put, sA, sB, sC]
  refine fV (by rfl) (fun w1 hw1 _ => load_at rfl rfl (hw1.heap HXp1.out) rfl Tryz.underlying26 rfl (by kernel_rfl)) ?_
  simp only [Act.put, sA, sB, sC]
  refine fH (by rfl) (by intro w1 hw1 hk1; obtain ⟨g6, -, -, -⟩ := hk1; exact HC1_9.out _ _ _ g6 (HPp2.out.bel (HBW.out.trans hw1))) (by intro; go_simp) (fun v9 => ?_)
  simp only [Act.put, sA, sB, sC]
  refine fH (by rfl) (by intro w1 hw1 hk1; obtain ⟨g9, -, g4, -, -⟩ := hk1; exact HC1_10.out _ _ _ g4 g9) (by intro; go_simp) (fun v10 => ?_)
  simp only [Act.put, sA, sB, sC]
  intro W1 hW1 hk1
  obtain ⟨g10, g9, g6, g4, g1, -⟩ := hk1
  obtain ⟨sr10_1x1, pr10_1x1, kr10_1x1, cr10_1x1, qr10_1x1, jr10_1x1, dr10_1x1, sr10_1x2, pr10_1x2, kr10_1x2, cr10_1x2, qr10_1x2, jr10_1x2, dr10_1x2, rfl, g10_1, g10_2⟩ := g10.parts
  have HV := Lib.hid g10
  have hfb := Lib.hid (HBW.out.trans hW1)
  have hhX := hW1.heap HXR.out
  have HHX := Lib.hid hhX
  clear hhX hW1 g1 g4 g6 g9 g10
  have ht := stoW (w := w) (t := 28) [.bool sr10_1x1, .slice pr10_1x1 kr10_1x1 cr10_1x1, .slice qr10_1x1 jr10_1x1 dr10_1x1, .bool sr10_1x2, .slice pr10_1x2 kr10_1x2 cr10_1x2, .slice qr10_1x2 jr10_1x2 dr10_1x2] HHX.out hfb.out rfl rfl HGEXR.out
  refine lt_store rfl rfl rfl rfl HHX.out rfl (by kernel_rfl) rfl rfl ?_
  generalize hWR : World.setCells _ _ _ _ = WR
  go_wp2
  rw [hWR] at ht
  exact bodyPost_ret (results_cell_row Tryz.results101 _ _ XR _ _ _ _ rfl ht.heap Tryz.underlying28 rfl (by kernel_rfl)) rfl ⟨_, rfl, ht.bel, HV.out.lim ht.lim⟩
set_option maxHeartbeats 4000000 in
set_option maxRecDepth 100000 in
theorem au_mapply {w : World} {m p : Value} {am bm cm dm em fm xp yp : Rat} {nm np : Nat} (hm : MS nm w m am bm cm dm em fm) (hp : PS np w p xp yp) (hl : 16 * (nm + np) + 16 < LimK) : Calls Tryz.prog 59 #[m, p] w (Makes w fun v w' => PN (((nm + np) + (nm + np) + 1) + nm + 1) w' v ((((am) * xp) + ((cm) * yp)) + (em)) ((((bm) * xp) + ((dm) * yp)) + (fm))) := by
  obtain ⟨R1, hR1⟩ : ∃ Z, ((am) * xp) + ((cm) * yp) = Z := ⟨_, rfl⟩
  obtain ⟨R2, hR2⟩ : ∃ Z, ((bm) * xp) + ((dm) * yp) = Z := ⟨_, rfl⟩
  have HC1_2 : Hid (∀ X u0 u1, MS nm X u0 am bm cm dm em fm → PS np X u1 xp yp → Calls Tryz.prog 101 #[u0, u1] X (Makes X fun v w => PN ((nm + np) + (nm + np) + 1) w v R1 R2)) := fun X u0 u1 h0 h1 => by subst hR1 hR2; exact au_mline (nm := nm) (np := np) h0 h1 (by omega)
  obtain ⟨R3, hR3⟩ : ∃ Z, em = Z := ⟨_, rfl⟩
  obtain ⟨R4, hR4⟩ : ∃ Z, fm = Z := ⟨_, rfl⟩
  have HC1_4 : Hid (∀ X u0, MS nm X u0 am bm cm dm em fm → Calls Tryz.prog 102 #[u0] X (Makes X fun v w => PS nm w v R3 R4)) := fun X u0 h0 => by subst hR3 hR4; exact au_mshift (nm := nm) h0 (by omega)
  obtain ⟨R5, hR5⟩ : ∃ Z, R1 + R3 = Z := ⟨_, rfl⟩
  obtain ⟨R6, hR6⟩ : ∃ Z, R2 + R4 = Z := ⟨_, rfl⟩
  have HC1_5 : Hid (∀ X u0 u1, PN ((nm + np) + (nm + np) + 1) X u0 R1 R2 → PS nm X u1 R3 R4 → Calls Tryz.prog 21 #[u0, u1] X (Makes X fun v w => PN (((nm + np) + (nm + np) + 1) + nm + 1) w v R5 R6)) := fun X u0 u1 h0 h1 => by subst hR5 hR6; exact au_padd (i := (nm + np) + (nm + np) + 1) (j := nm) (h0.ps (by omega)) h1 (by omega)
  suffices HS : Calls Tryz.prog 59 #[m, p] w (Makes w (fun v w' => PN (((nm + np) + (nm + np) + 1) + nm + 1) w' v R5 R6)) by
    subst hR6 hR5 hR4 hR3 hR2 hR1; exact HS
  clear hR1 hR2 hR3 hR4 hR5 hR6
  clear hl
  obtain ⟨sm1, pm1, km1, cm1, qm1, jm1, dm1, sm2, pm2, km2, cm2, qm2, jm2, dm2, sm3, pm3, km3, cm3, qm3, jm3, dm3, sm4, pm4, km4, cm4, qm4, jm4, dm4, sm5, pm5, km5, cm5, qm5, jm5, dm5, sm6, pm6, km6, cm6, qm6, jm6, dm6, rfl, hm1, hm2, hm3, hm4, hm5, hm6⟩ := hm.parts
  have HPm := Lib.hid hm
  have HPm1 := Lib.hid hm1
  have HPm2 := Lib.hid hm2
  have HPm3 := Lib.hid hm3
  have HPm4 := Lib.hid hm4
  have HPm5 := Lib.hid hm5
  have HPm6 := Lib.hid hm6
  clear hm hm1 hm2 hm3 hm4 hm5 hm6
  obtain ⟨sp1, pp1, kp1, cp1, qp1, jp1, dp1, sp2, pp2, kp2, cp2, qp2, jp2, dp2, rfl, hp1, hp2⟩ := hp.parts
  have HPp := Lib.hid hp
  have HPp1 := Lib.hid hp1
  have HPp2 := Lib.hid hp2
  clear hp hp1 hp2
  go_enter Tryz.func59, Tryz.ntmps59
  go_upto_region 1 with fail
  obtain ⟨hXp0, hXp1, hXR, hbw⟩ := boxes3 w (.cells #[.bool sm1, .slice pm1 km1 cm1, .slice qm1 jm1 dm1, .bool sm2, .slice pm2 km2 cm2, .slice qm2 jm2 dm2, .bool sm3, .slice pm3 km3 cm3, .slice qm3 jm3 dm3, .bool sm4, .slice pm4 km4 cm4, .slice qm4 jm4 dm4, .bool sm5, .slice pm5 km5 cm5, .slice qm5 jm5 dm5, .bool sm6, .slice pm6 km6 cm6, .slice qm6 jm6 dm6] 72) (.cells #[.bool sp1, .slice pp1 kp1 cp1, .slice qp1 jp1 dp1, .bool sp2, .slice pp2 kp2 cp2, .slice qp2 jp2 dp2] 28) (.cells #[.bool false, .slice none 0 0, .slice none 0 0, .bool false, .slice none 0 0, .slice none 0 0] 28)
  obtain ⟨W, hW⟩ : ∃ W, ((w.alloc (.cells #[.bool sm1, .slice pm1 km1 cm1, .slice qm1 jm1 dm1, .bool sm2, .slice pm2 km2 cm2, .slice qm2 jm2 dm2, .bool sm3, .slice pm3 km3 cm3, .slice qm3 jm3 dm3, .bool sm4, .slice pm4 km4 cm4, .slice qm4 jm4 dm4, .bool sm5, .slice pm5 km5 cm5, .slice qm5 jm5 dm5, .bool sm6, .slice pm6 km6 cm6, .slice qm6 jm6 dm6] 72)).alloc (.cells #[.bool sp1, .slice pp1 kp1 cp1, .slice qp1 jp1 dp1, .bool sp2, .slice pp2 kp2 cp2, .slice qp2 jp2 dp2] 28)).alloc (.cells #[.bool false, .slice none 0 0, .slice none 0 0, .bool false, .slice none 0 0, .slice none 0 0] 28) = W := ⟨_, rfl⟩
  rw [hW] at hXp0 hXp1 hXR hbw ⊢
  obtain ⟨Xp0, eXp0⟩ : ∃ X, w.heap.size = X := ⟨_, rfl⟩
  obtain ⟨Xp1, eXp1⟩ : ∃ X, Xp0 + 1 = X := ⟨_, rfl⟩
  obtain ⟨XR, eXR⟩ : ∃ X, Xp1 + 1 = X := ⟨_, rfl⟩
  rw [eXp0, eXp1, eXR]
  rw [eXp0] at hXp0 hXp1 hXR
  rw [eXp1] at hXp1 hXR
  rw [eXR] at hXR
  have HXp0 := Lib.hid hXp0
  have HXp1 := Lib.hid hXp1
  have HXR := Lib.hid hXR
  have HBW := Lib.hid hbw
  have HGEXp0 : Hid (w.heap.size ≤ Xp0) := by unfold Hid; omega
  have HGEXp1 : Hid (w.heap.size ≤ Xp1) := by unfold Hid; omega
  have HGEXR : Hid (w.heap.size ≤ XR) := by unfold Hid; omega
  have HLT : Hid (Xp0 < Xp1 ∧ Xp1 < XR) := by unfold Hid; omega
  clear hW hbw hXp0 hXp1 hXR eXp0 eXp1 eXR
  refine region_flow 6 [[], [], [0, 1], [], [3], [2, 4]] [.is (.agg #[.bool sm1, .slice pm1 km1 cm1, .slice qm1 jm1 dm1, .bool sm2, .slice pm2 km2 cm2, .slice qm2 jm2 dm2, .bool sm3, .slice pm3 km3 cm3, .slice qm3 jm3 dm3, .bool sm4, .slice pm4 km4 cm4, .slice qm4 jm4 dm4, .bool sm5, .slice pm5 km5 cm5, .slice qm5 jm5 dm5, .bool sm6, .slice pm6 km6 cm6, .slice qm6 jm6 dm6]), .is (.agg #[.bool sp1, .slice pp1 kp1 cp1, .slice qp1 jp1 dp1, .bool sp2, .slice pp2 kp2 cp2, .slice qp2 jp2 dp2]), .has (fun v w => PN ((nm + np) + (nm + np) + 1) w v R1 R2), .is (.agg #[.bool sm1, .slice pm1 km1 cm1, .slice qm1 jm1 dm1, .bool sm2, .slice pm2 km2 cm2, .slice qm2 jm2 dm2, .bool sm3, .slice pm3 km3 cm3, .slice qm3 jm3 dm3, .bool sm4, .slice pm4 km4 cm4, .slice qm4 jm4 dm4, .bool sm5, .slice pm5 km5 cm5, .slice qm5 jm5 dm5, .bool sm6, .slice pm6 km6 cm6, .slice qm6 jm6 dm6]), .has (fun v w => PS nm w v R3 R4), .has (fun v w => PN (((nm + np) + (nm + np) + 1) + nm + 1) w v R5 R6)] (by kernel_rfl) (by kernel_rfl) rfl (by simp only [Steady]; exact ⟨fun _ _ _ h hb => h.bel hb, fun _ _ _ h hb => h.bel hb, fun _ _ _ h hb => h.bel hb, trivial⟩) ?_
  simp only [List.take_succ_cons, List.take_zero, List.drop_succ_cons, List.drop_zero]
  refine fV (by rfl) (fun w1 hw1 _ => load_at rfl rfl (hw1.heap HXp0.out) rfl Tryz.underlying72 rfl (by kernel_rfl)) ?_
  simp only [Act.put, sA, sB, sC]
  refine fV (by rfl) (fun w1 hw1 _ => load_at rfl rfl (hw1.heap HXp1.out) rfl Tryz.underlying28 rfl (by kernel_rfl)) ?_
  simp only [Act.put, sA, sB, sC]
  refine fH (by rfl) (by intro w1 hw1 hk1; exact HC1_2.out _ _ _ (HPm.out.bel (HBW.out.trans hw1)) (HPp.out.bel (HBW.out.trans hw1))) (by intro; go_simp) (fun v2 => ?_)
  simp only [Act.put, sA, sB, sC]
  refine fV (by rfl) (fun w1 hw1 _ => load_at rfl rfl (hw1.heap HXp0.out) rfl Tryz.underlying72 rfl (by kernel_rfl)) ?_
  simp only [Act.put, sA, sB, sC]
  refine fH (by rfl) (by intro w1 hw1 hk1; exact HC1_4.out _ _ (HPm.out.bel (HBW.out.trans hw1))) (by intro; go_simp) (fun v4 => ?_)
  simp only [Act.put, sA, sB, sC]
  refine fH (by rfl) (by intro w1 hw1 hk1; obtain ⟨g4, g2, -⟩ := hk1; exact HC1_5.out _ _ _ g2 g4) (by intro; go_simp) (fun v5 => ?_)
  simp only [Act.put, sA, sB, sC]
  intro W1 hW1 hk1
  obtain ⟨g5, g4, g2, -⟩ := hk1
  obtain ⟨sr5_1x1, pr5_1x1, kr5_1x1, cr5_1x1, qr5_1x1, jr5_1x1, dr5_1x1, sr5_1x2, pr5_1x2, kr5_1x2, cr5_1x2, qr5_1x2, jr5_1x2, dr5_1x2, rfl, g5_1, g5_2⟩ := g5.parts
  have HV := Lib.hid g5
  have hfb := Lib.hid (HBW.out.trans hW1)
  have hhX := hW1.heap HXR.out
  have HHX := Lib.hid hhX
  clear hhX hW1 g2 g4 g5
  have ht := stoW (w := w) (t := 28) [.bool sr5_1x1, .slice pr5_1x1 kr5_1x1 cr5_1x1, .slice qr5_1x1 jr5_1x1 dr5_1x1, .bool sr5_1x2, .slice pr5_1x2 kr5_1x2 cr5_1x2, .slice qr5_1x2 jr5_1x2 dr5_1x2] HHX.out hfb.out rfl rfl HGEXR.out
  refine lt_store rfl rfl rfl rfl HHX.out rfl (by kernel_rfl) rfl rfl ?_
  generalize hWR : World.setCells _ _ _ _ = WR
  go_wp2
  rw [hWR] at ht
  exact bodyPost_ret (results_cell_row Tryz.results59 _ _ XR _ _ _ _ rfl ht.heap Tryz.underlying28 rfl (by kernel_rfl)) rfl ⟨_, rfl, ht.bel, HV.out.lim ht.lim⟩
set_option maxHeartbeats 4000000 in
set_option maxRecDepth 100000 in
theorem au_mmul {w : World} {m l : Value} {am bm cm dm em fm al bl cl dl el fl : Rat} {nm nl : Nat} (hm : MS nm w m am bm cm dm em fm) (hl : MS nl w l al bl cl dl el fl) (hl : 40 * (nm + nl) + 40 < LimK) : Calls Tryz.prog 61 #[m, l] w (Makes w fun v w' => MN ((((nm + nl) + (nm + nl) + 1) + ((nm + nl) + (nm + nl) + 1) + (((nm + nl) + (nm + nl) + 1) + nm + 1))) w' v ((((am) * (al)) + ((cm) * (bl)))) ((((bm) * (al)) + ((dm) * (bl)))) ((((am) * (cl)) + ((cm) * (dl)))) ((((bm) * (cl)) + ((dm) * (dl)))) (((((am) * (el)) + ((cm) * (fl))) + (em))) (((((bm) * (el)) + ((dm) * (fl))) + (fm)))) := by
  obtain ⟨R1, hR1⟩ : ∃ Z, al = Z := ⟨_, rfl⟩
  obtain ⟨R2, hR2⟩ : ∃ Z, bl = Z := ⟨_, rfl⟩
  have HC1_2 : Hid (∀ X u0, MS nl X u0 al bl cl dl el fl → Calls Tryz.prog 108 #[u0] X (Makes X fun v w => PS nl w v R1 R2)) := fun X u0 h0 => by subst hR1 hR2; exact au_mx (nm := nl) h0 (by omega)
  obtain ⟨R3, hR3⟩ : ∃ Z, ((am) * R1) + ((cm) * R2) = Z := ⟨_, rfl⟩
  obtain ⟨R4, hR4⟩ : ∃ Z, ((bm) * R1) + ((dm) * R2) = Z := ⟨_, rfl⟩
  have HC1_3 : Hid (∀ X u0 u1, MS nm X u0 am bm cm dm em fm → PS nl X u1 R1 R2 → Calls Tryz.prog 101 #[u0, u1] X (Makes X fun v w => PN ((nm + nl) + (nm + nl) + 1) w v R3 R4)) := fun X u0 u1 h0 h1 => by subst hR3 hR4; exact au_mline (nm := nm) (np := nl) h0 h1 (by omega)
  obtain ⟨R5, hR5⟩ : ∃ Z, cl = Z := ⟨_, rfl⟩
  obtain ⟨R6, hR6⟩ : ∃ Z, dl = Z := ⟨_, rfl⟩
  have HC1_6 : Hid (∀ X u0, MS nl X u0 al bl cl dl el fl → Calls Tryz.prog 109 #[u0] X (Makes X fun v w => PS nl w v R5 R6)) := fun X u0 h0 => by subst hR5 hR6; exact au_my (nm := nl) h0 (by omega)
  obtain ⟨R7, hR7⟩ : ∃ Z, ((am) * R5) + ((cm) * R6) = Z := ⟨_, rfl⟩
  obtain ⟨R8, hR8⟩ : ∃ Z, ((bm) * R5) + ((dm) * R6) = Z := ⟨_, rfl⟩
  have HC1_7 : Hid (∀ X u0 u1, MS nm X u0 am bm cm dm em fm → PS nl X u1 R5 R6 → Calls Tryz.prog 101 #[u0, u1] X (Makes X fun v w => PN ((nm + nl) + (nm + nl) + 1) w v R7 R8)) := fun X u0 u1 h0 h1 => by subst hR7 hR8; exact au_mline (nm := nm) (np := nl) h0 h1 (by omega)
  obtain ⟨R9, hR9⟩ : ∃ Z, el = Z := ⟨_, rfl⟩
  obtain ⟨R10, hR10⟩ : ∃ Z, fl = Z := ⟨_, rfl⟩
  have HC1_10 : Hid (∀ X u0, MS nl X u0 al bl cl dl el fl → Calls Tryz.prog 102 #[u0] X (Makes X fun v w => PS nl w v R9 R10)) := fun X u0 h0 => by subst hR9 hR10; exact au_mshift (nm := nl) h0 (by omega)
  obtain ⟨R11, hR11⟩ : ∃ Z, (((am) * R9) + ((cm) * R10)) + (em) = Z := ⟨_, rfl⟩
  obtain ⟨R12, hR12⟩ : ∃ Z, (((bm) * R9) + ((dm) * R10)) + (fm) = Z := ⟨_, rfl⟩
  have HC1_11 : Hid (∀ X u0 u1, MS nm X u0 am bm cm dm em fm → PS nl X u1 R9 R10 → Calls Tryz.prog 59 #[u0, u1] X (Makes X fun v w => PN (((nm + nl) + (nm + nl) + 1) + nm + 1) w v R11 R12)) := fun X u0 u1 h0 h1 => by subst hR11 hR12; exact au_mapply (nm := nm) (np := nl) h0 h1 (by omega)
  obtain ⟨R13, hR13⟩ : ∃ Z, R3 = Z := ⟨_, rfl⟩
  obtain ⟨R14, hR14⟩ : ∃ Z, R4 = Z := ⟨_, rfl⟩
  obtain ⟨R15, hR15⟩ : ∃ Z, R7 = Z := ⟨_, rfl⟩
  obtain ⟨R16, hR16⟩ : ∃ Z, R8 = Z := ⟨_, rfl⟩
  obtain ⟨R17, hR17⟩ : ∃ Z, R11 = Z := ⟨_, rfl⟩
  obtain ⟨R18, hR18⟩ : ∃ Z, R12 = Z := ⟨_, rfl⟩
  have HC1_12 : Hid (∀ X u0 u1 u2, PN ((nm + nl) + (nm + nl) + 1) X u0 R3 R4 → PN ((nm + nl) + (nm + nl) + 1) X u1 R7 R8 → PN (((nm + nl) + (nm + nl) + 1) + nm + 1) X u2 R11 R12 → Calls Tryz.prog 100 #[u0, u1, u2] X (Makes X fun v w => MN ((((nm + nl) + (nm + nl) + 1) + ((nm + nl) + (nm + nl) + 1) + (((nm + nl) + (nm + nl) + 1) + nm + 1))) w v R13 R14 R15 R16 R17 R18)) := fun X u0 u1 u2 h0 h1 h2 => by subst hR13 hR14 hR15 hR16 hR17 hR18; exact au_mofn (nx := (nm + nl) + (nm + nl) + 1) (ny := (nm + nl) + (nm + nl) + 1) (nz := ((nm + nl) + (nm + nl) + 1) + nm + 1) h0 h1 h2 (by omega)
  suffices HS : Calls Tryz.prog 61 #[m, l] w (Makes w (fun v w' => MN ((((nm + nl) + (nm + nl) + 1) + ((nm + nl) + (nm + nl) + 1) + (((nm + nl) + (nm + nl) + 1) + nm + 1))) w' v R13 R14 R15 R16 R17 R18)) by
    subst hR18 hR17 hR16 hR15 hR14 hR13 hR12 hR11 hR10 hR9 hR8 hR7 hR6 hR5 hR4 hR3 hR2 hR1; exact HS
  clear hR1 hR2 hR3 hR4 hR5 hR6 hR7 hR8 hR9 hR10 hR11 hR12 hR13 hR14 hR15 hR16 hR17 hR18
  clear hl
  obtain ⟨sm1, pm1, km1, cm1, qm1, jm1, dm1, sm2, pm2, km2, cm2, qm2, jm2, dm2, sm3, pm3, km3, cm3, qm3, jm3, dm3, sm4, pm4, km4, cm4, qm4, jm4, dm4, sm5, pm5, km5, cm5, qm5, jm5, dm5, sm6, pm6, km6, cm6, qm6, jm6, dm6, rfl, hm1, hm2, hm3, hm4, hm5, hm6⟩ := hm.parts
  have HPm := Lib.hid hm
  have HPm1 := Lib.hid hm1
  have HPm2 := Lib.hid hm2
  have HPm3 := Lib.hid hm3
  have HPm4 := Lib.hid hm4
  have HPm5 := Lib.hid hm5
  have HPm6 := Lib.hid hm6
  clear hm hm1 hm2 hm3 hm4 hm5 hm6
  obtain ⟨sl1, pl1, kl1, cl1, ql1, jl1, dl1, sl2, pl2, kl2, cl2, ql2, jl2, dl2, sl3, pl3, kl3, cl3, ql3, jl3, dl3, sl4, pl4, kl4, cl4, ql4, jl4, dl4, sl5, pl5, kl5, cl5, ql5, jl5, dl5, sl6, pl6, kl6, cl6, ql6, jl6, dl6, rfl, hl1, hl2, hl3, hl4, hl5, hl6⟩ := hl.parts
  have HPl := Lib.hid hl
  have HPl1 := Lib.hid hl1
  have HPl2 := Lib.hid hl2
  have HPl3 := Lib.hid hl3
  have HPl4 := Lib.hid hl4
  have HPl5 := Lib.hid hl5
  have HPl6 := Lib.hid hl6
  clear hl hl1 hl2 hl3 hl4 hl5 hl6
  go_enter Tryz.func61, Tryz.ntmps61
  go_upto_region 1 with fail
  obtain ⟨hXp0, hXp1, hXR, hbw⟩ := boxes3 w (.cells #[.bool sm1, .slice pm1 km1 cm1, .slice qm1 jm1 dm1, .bool sm2, .slice pm2 km2 cm2, .slice qm2 jm2 dm2, .bool sm3, .slice pm3 km3 cm3, .slice qm3 jm3 dm3, .bool sm4, .slice pm4 km4 cm4, .slice qm4 jm4 dm4, .bool sm5, .slice pm5 km5 cm5, .slice qm5 jm5 dm5, .bool sm6, .slice pm6 km6 cm6, .slice qm6 jm6 dm6] 72) (.cells #[.bool sl1, .slice pl1 kl1 cl1, .slice ql1 jl1 dl1, .bool sl2, .slice pl2 kl2 cl2, .slice ql2 jl2 dl2, .bool sl3, .slice pl3 kl3 cl3, .slice ql3 jl3 dl3, .bool sl4, .slice pl4 kl4 cl4, .slice ql4 jl4 dl4, .bool sl5, .slice pl5 kl5 cl5, .slice ql5 jl5 dl5, .bool sl6, .slice pl6 kl6 cl6, .slice ql6 jl6 dl6] 72) (.cells #[.bool false, .slice none 0 0, .slice none 0 0, .bool false, .slice none 0 0, .slice none 0 0, .bool false, .slice none 0 0, .slice none 0 0, .bool false, .slice none 0 0, .slice none 0 0, .bool false, .slice none 0 0, .slice none 0 0, .bool false, .slice none 0 0, .slice none 0 0] 72)
  obtain ⟨W, hW⟩ : ∃ W, ((w.alloc (.cells #[.bool sm1, .slice pm1 km1 cm1, .slice qm1 jm1 dm1, .bool sm2, .slice pm2 km2 cm2, .slice qm2 jm2 dm2, .bool sm3, .slice pm3 km3 cm3, .slice qm3 jm3 dm3, .bool sm4, .slice pm4 km4 cm4, .slice qm4 jm4 dm4, .bool sm5, .slice pm5 km5 cm5, .slice qm5 jm5 dm5, .bool sm6, .slice pm6 km6 cm6, .slice qm6 jm6 dm6] 72)).alloc (.cells #[.bool sl1, .slice pl1 kl1 cl1, .slice ql1 jl1 dl1, .bool sl2, .slice pl2 kl2 cl2, .slice ql2 jl2 dl2, .bool sl3, .slice pl3 kl3 cl3, .slice ql3 jl3 dl3, .bool sl4, .slice pl4 kl4 cl4, .slice ql4 jl4 dl4, .bool sl5, .slice pl5 kl5 cl5, .slice ql5 jl5 dl5, .bool sl6, .slice pl6 kl6 cl6, .slice ql6 jl6 dl6] 72)).alloc (.cells #[.bool false, .slice none 0 0, .slice none 0 0, .bool false, .slice none 0 0, .slice none 0 0, .bool false, .slice none 0 0, .slice none 0 0, .bool false, .slice none 0 0, .slice none 0 0, .bool false, .slice none 0 0, .slice none 0 0, .bool false, .slice none 0 0, .slice none 0 0] 72) = W := ⟨_, rfl⟩
  rw [hW] at hXp0 hXp1 hXR hbw ⊢
  obtain ⟨Xp0, eXp0⟩ : ∃ X, w.heap.size = X := ⟨_, rfl⟩
  obtain ⟨Xp1, eXp1⟩ : ∃ X, Xp0 + 1 = X := ⟨_, rfl⟩
  obtain ⟨XR, eXR⟩ : ∃ X, Xp1 + 1 = X := ⟨_, rfl⟩
  rw [eXp0, eXp1, eXR]
  rw [eXp0] at hXp0 hXp1 hXR
  rw [eXp1] at hXp1 hXR
  rw [eXR] at hXR
  have HXp0 := Lib.hid hXp0
  have HXp1 := Lib.hid hXp1
  have HXR := Lib.hid hXR
  have HBW := Lib.hid hbw
  have HGEXp0 : Hid (w.heap.size ≤ Xp0) := by unfold Hid; omega
  have HGEXp1 : Hid (w.heap.size ≤ Xp1) := by unfold Hid; omega
  have HGEXR : Hid (w.heap.size ≤ XR) := by unfold Hid; omega
  have HLT : Hid (Xp0 < Xp1 ∧ Xp1 < XR) := by unfold Hid; omega
  clear hW hbw hXp0 hXp1 hXR eXp0 eXp1 eXR
  refine region_flow 13 [[], [], [1], [0, 2], [], [], [5], [4, 6], [], [], [9], [8, 10], [3, 7, 11]] [.is (.agg #[.bool sm1, .slice pm1 km1 cm1, .slice qm1 jm1 dm1, .bool sm2, .slice pm2 km2 cm2, .slice qm2 jm2 dm2, .bool sm3, .slice pm3 km3 cm3, .slice qm3 jm3 dm3, .bool sm4, .slice pm4 km4 cm4, .slice qm4 jm4 dm4, .bool sm5, .slice pm5 km5 cm5, .slice qm5 jm5 dm5, .bool sm6, .slice pm6 km6 cm6, .slice qm6 jm6 dm6]), .is (.agg #[.bool sl1, .slice pl1 kl1 cl1, .slice ql1 jl1 dl1, .bool sl2, .slice pl2 kl2 cl2, .slice ql2 jl2 dl2, .bool sl3, .slice pl3 kl3 cl3, .slice ql3 jl3 dl3, .bool sl4, .slice pl4 kl4 cl4, .slice ql4 jl4 dl4, .bool sl5, .slice pl5 kl5 cl5, .slice ql5 jl5 dl5, .bool sl6, .slice pl6 kl6 cl6, .slice ql6 jl6 dl6]), .has (fun v w => PS nl w v R1 R2), .has (fun v w => PN ((nm + nl) + (nm + nl) + 1) w v R3 R4), .is (.agg #[.bool sm1, .slice pm1 km1 cm1, .slice qm1 jm1 dm1, .bool sm2, .slice pm2 km2 cm2, .slice qm2 jm2 dm2, .bool sm3, .slice pm3 km3 cm3, .slice qm3 jm3 dm3, .bool sm4, .slice pm4 km4 cm4, .slice qm4 jm4 dm4, .bool sm5, .slice pm5 km5 cm5, .slice qm5 jm5 dm5, .bool sm6, .slice pm6 km6 cm6, .slice qm6 jm6 dm6]), .is (.agg #[.bool sl1, .slice pl1 kl1 cl1, .slice ql1 jl1 dl1, .bool sl2, .slice pl2 kl2 cl2, .slice ql2 jl2 dl2, .bool sl3, .slice pl3 kl3 cl3, .slice ql3 jl3 dl3, .bool sl4, .slice pl4 kl4 cl4, .slice ql4 jl4 dl4, .bool sl5, .slice pl5 kl5 cl5, .slice ql5 jl5 dl5, .bool sl6, .slice pl6 kl6 cl6, .slice ql6 jl6 dl6]), .has (fun v w => PS nl w v R5 R6), .has (fun v w => PN ((nm + nl) + (nm + nl) + 1) w v R7 R8), .is (.agg #[.bool sm1, .slice pm1 km1 cm1, .slice qm1 jm1 dm1, .bool sm2, .slice pm2 km2 cm2, .slice qm2 jm2 dm2, .bool sm3, .slice pm3 km3 cm3, .slice qm3 jm3 dm3, .bool sm4, .slice pm4 km4 cm4, .slice qm4 jm4 dm4, .bool sm5, .slice pm5 km5 cm5, .slice qm5 jm5 dm5, .bool sm6, .slice pm6 km6 cm6, .slice qm6 jm6 dm6]), .is (.agg #[.bool sl1, .slice pl1 kl1 cl1, .slice ql1 jl1 dl1, .bool sl2, .slice pl2 kl2 cl2, .slice ql2 jl2 dl2, .bool sl3, .slice pl3 kl3 cl3, .slice ql3 jl3 dl3, .bool sl4, .slice pl4 kl4 cl4, .slice ql4 jl4 dl4, .bool sl5, .slice pl5 kl5 cl5, .slice ql5 jl5 dl5, .bool sl6, .slice pl6 kl6 cl6, .slice ql6 jl6 dl6]), .has (fun v w => PS nl w v R9 R10), .has (fun v w => PN (((nm + nl) + (nm + nl) + 1) + nm + 1) w v R11 R12), .has (fun v w => MN ((((nm + nl) + (nm + nl) + 1) + ((nm + nl) + (nm + nl) + 1) + (((nm + nl) + (nm + nl) + 1) + nm + 1))) w v R13 R14 R15 R16 R17 R18)] (by kernel_rfl) (by kernel_rfl) rfl (by simp only [Steady]; exact ⟨fun _ _ _ h hb => h.bel hb, fun _ _ _ h hb => h.bel hb, fun _ _ _ h hb => h.bel hb, fun _ _ _ h hb => h.bel hb, fun _ _ _ h hb => h.bel hb, fun _ _ _ h hb => h.bel hb, fun _ _ _ h hb => h.bel hb, trivial⟩) ?_
  simp only [List.take_succ_cons, List.take_zero, List.drop_succ_cons, List.drop_zero]
  refine fV (by rfl) (fun w1 hw1 _ => load_at rfl rfl (hw1.heap HXp0.out) rfl Tryz.underlying72 rfl (by kernel_rfl)) ?_
  simp only [Act.put, sA, sB, sC]
  refine fV (by rfl) (fun w1 hw1 _ => load_at rfl rfl (hw1.heap HXp1.out) rfl Tryz.underlying72 rfl (by kernel_rfl)) ?_
  simp only [Act.put, sA, sB, sC]
  refine fH (by rfl) (by intro w1 hw1 hk1; exact HC1_2.out _ _ (HPl.out.bel (HBW.out.trans hw1))) (by intro; go_simp) (fun v2 => ?_)
  simp only [Act.put, sA, sB, sC]
  refine fH (by rfl) (by intro w1 hw1 hk1; obtain ⟨g2, -⟩ := hk1; exact HC1_3.out _ _ _ (HPm.out.bel (HBW.out.trans hw1)) g2) (by intro; go_simp) (fun v3 => ?_)
  simp only [Act.put, sA, sB, sC]
  refine fV (by rfl) (fun w1 hw1 _ => load_at rfl rfl (hw1.heap HXp0.out) rfl Tryz.underlying72 rfl (by kernel_rfl)) ?_
  simp only [Act.put, sA, sB, sC]
  refine fV (by rfl) (fun w1 hw1 _ => load_at rfl rfl (hw1.heap HXp1.out) rfl Tryz.underlying72 rfl (by kernel_rfl)) ?_
  simp only [Act.put, sA, sB, sC]
  refine fH (by rfl) (by intro w1 hw1 hk1; exact HC1_6.out _ _ (HPl.out.bel (HBW.out.trans hw1))) (by intro; go_simp) (fun v6 => ?_)
  simp only [Act.put, sA, sB, sC]
  refine fH (by rfl) (by intro w1 hw1 hk1; obtain ⟨g6, -, -, -⟩ := hk1; exact HC1_7.out _ _ _ (HPm.out.bel (HBW.out.trans hw1)) g6) (by intro; go_simp) (fun v7 => ?_)
  simp only [Act.put, sA, sB, sC]
  refine fV (by rfl) (fun w1 hw1 _ => load_at rfl rfl (hw1.heap HXp0.out) rfl Tryz.underlying72 rfl (by kernel_rfl)) ?_
  simp only [Act.put, sA, sB, sC]
  refine fV (by rfl) (fun w1 hw1 _ => load_at rfl rfl (hw1.heap HXp1.out) rfl Tryz.underlying72 rfl (by kernel_rfl)) ?_
  simp only [Act.put, sA, sB, sC]
  refine fH (by rfl) (by intro w1 hw1 hk1; exact HC1_10.out _ _ (HPl.out.bel (HBW.out.trans hw1))) (by intro; go_simp) (fun v10 => ?_)
  simp only [Act.put, sA, sB, sC]
  refine fH (by rfl) (by intro w1 hw1 hk1; obtain ⟨g10, -, -, -, -, -⟩ := hk1; exact HC1_11.out _ _ _ (HPm.out.bel (HBW.out.trans hw1)) g10) (by intro; go_simp) (fun v11 => ?_)
  simp only [Act.put, sA, sB, sC]
  refine fH (by rfl) (by intro w1 hw1 hk1; obtain ⟨g11, -, g7, -, g3, -, -⟩ := hk1; exact HC1_12.out _ _ _ _ g3 g7 g11) (by intro; go_simp) (fun v12 => ?_)
  simp only [Act.put, sA, sB, sC]
  intro W1 hW1 hk1
  obtain ⟨g12, g11, g10, g7, g6, g3, g2, -⟩ := hk1
  obtain ⟨sr12_1x1, pr12_1x1, kr12_1x1, cr12_1x1, qr12_1x1, jr12_1x1, dr12_1x1, sr12_1x2, pr12_1x2, kr12_1x2, cr12_1x2, qr12_1x2, jr12_1x2, dr12_1x2, sr12_1x3, pr12_1x3, kr12_1x3, cr12_1x3, qr12_1x3, jr12_1x3, dr12_1x3, sr12_1x4, pr12_1x4, kr12_1x4, cr12_1x4, qr12_1x4, jr12_1x4, dr12_1x4, sr12_1x5, pr12_1x5, kr12_1x5, cr12_1x5, qr12_1x5, jr12_1x5, dr12_1x5, sr12_1x6, pr12_1x6, kr12_1x6, cr12_1x6, qr12_1x6, jr12_1x6, dr12_1x6, rfl, g12_1, g12_2, g12_3, g12_4, g12_5, g12_6⟩ := g12.parts
  have HV := Lib.hid g12
  have hfb := Lib.hid (HBW.out.trans hW1)
  have hhX := hW1.heap HXR.out
  have HHX := Lib.hid hhX
  clear hhX hW1 g2 g3 g6 g7 g10 g11 g12
  have ht := stoW (w := w) (t := 72) [.bool sr12_1x1, .slice pr12_1x1 kr12_1x1 cr12_1x1, .slice qr12_1x1 jr12_1x1 dr12_1x1, .bool sr12_1x2, .slice pr12_1x2 kr12_1x2 cr12_1x2, .slice qr12_1x2 jr12_1x2 dr12_1x2, .bool sr12_1x3, .slice pr12_1x3 kr12_1x3 cr12_1x3, .slice qr12_1x3 jr12_1x3 dr12_1x3, .bool sr12_1x4, .slice pr12_1x4 kr12_1x4 cr12_1x4, .slice qr12_1x4 jr12_1x4 dr12_1x4, .bool sr12_1x5, .slice pr12_1x5 kr12_1x5 cr12_1x5, .slice qr12_1x5 jr12_1x5 dr12_1x5, .bool sr12_1x6, .slice pr12_1x6 kr12_1x6 cr12_1x6, .slice qr12_1x6 jr12_1x6 dr12_1x6] HHX.out hfb.out rfl rfl HGEXR.out
  refine lt_store rfl rfl rfl rfl HHX.out rfl (by kernel_rfl) rfl rfl ?_
  generalize hWR : World.setCells _ _ _ _ = WR
  go_wp2
  rw [hWR] at ht
  exact bodyPost_ret (results_cell_row Tryz.results61 _ _ XR _ _ _ _ rfl ht.heap Tryz.underlying72 rfl (by kernel_rfl)) rfl ⟨_, rfl, ht.bel, HV.out.lim ht.lim⟩
set_option maxHeartbeats 4000000 in
set_option maxRecDepth 100000 in
theorem au_mdet {w : World} {m : Value} {am bm cm dm em fm : Rat} {nm : Nat} (hm : MS nm w m am bm cm dm em fm) (hl : 8 * (nm) + 8 < LimK) : Calls Tryz.prog 63 #[m] w (Makes w fun v w' => RN (nm + nm + (nm + nm) + 1) w' v ((am) * (dm) - (bm) * (cm))) := by
  obtain ⟨R1, hR1⟩ : ∃ Z, am = Z := ⟨_, rfl⟩
  obtain ⟨R2, hR2⟩ : ∃ Z, bm = Z := ⟨_, rfl⟩
  have HC1_1 : Hid (∀ X u0, MS nm X u0 am bm cm dm em fm → Calls Tryz.prog 108 #[u0] X (Makes X fun v w => PS nm w v R1 R2)) := fun X u0 h0 => by subst hR1 hR2; exact au_mx (nm := nm) h0 (by omega)
  obtain ⟨R3, hR3⟩ : ∃ Z, cm = Z := ⟨_, rfl⟩
  obtain ⟨R4, hR4⟩ : ∃ Z, dm = Z := ⟨_, rfl⟩
  have HC1_3 : Hid (∀ X u0, MS nm X u0 am bm cm dm em fm → Calls Tryz.prog 109 #[u0] X (Makes X fun v w => PS nm w v R3 R4)) := fun X u0 h0 => by subst hR3 hR4; exact au_my (nm := nm) h0 (by omega)
  obtain ⟨R5, hR5⟩ : ∃ Z, R1 * R4 - R2 * R3 = Z := ⟨_, rfl⟩
  have HC1_4 : Hid (∀ X u0 u1, PS nm X u0 R1 R2 → PS nm X u1 R3 R4 → Calls Tryz.prog 32 #[u0, u1] X (Makes X fun v w => RN (nm + nm + (nm + nm) + 1) w v R5)) := fun X u0 u1 h0 h1 => by subst hR5; exact au_cross (i := nm) (j := nm) h0 h1 (by omega)
  suffices HS : Calls Tryz.prog 63 #[m] w (Makes w (fun v w' => RN (nm + nm + (nm + nm) + 1) w' v R5)) by
    subst hR5 hR4 hR3 hR2 hR1; exact HS
  clear hR1 hR2 hR3 hR4 hR5
  clear hl
  obtain ⟨sm1, pm1, km1, cm1, qm1, jm1, dm1, sm2, pm2, km2, cm2, qm2, jm2, dm2, sm3, pm3, km3, cm3, qm3, jm3, dm3, sm4, pm4, km4, cm4, qm4, jm4, dm4, sm5, pm5, km5, cm5, qm5, jm5, dm5, sm6, pm6, km6, cm6, qm6, jm6, dm6, rfl, hm1, hm2, hm3, hm4, hm5, hm6⟩ := hm.parts
  have HPm := Lib.hid hm
  have HPm1 := Lib.hid hm1
  have HPm2 := Lib.hid hm2
  have HPm3 := Lib.hid hm3
  have HPm4 := Lib.hid hm4
  have HPm5 := Lib.hid hm5
  have HPm6 := Lib.hid hm6
  clear hm hm1 hm2 hm3 hm4 hm5 hm6
  go_enter Tryz.func63, Tryz.ntmps63
  go_upto_region 1 with fail
  obtain ⟨hXp0, hXR, hbw⟩ := boxes2 w (.cells #[.bool sm1, .slice pm1 km1 cm1, .slice qm1 jm1 dm1, .bool sm2, .slice pm2 km2 cm2, .slice qm2 jm2 dm2, .bool sm3, .slice pm3 km3 cm3, .slice qm3 jm3 dm3, .bool sm4, .slice pm4 km4 cm4, .slice qm4 jm4 dm4, .bool sm5, .slice pm5 km5 cm5, .slice qm5 jm5 dm5, .bool sm6, .slice pm6 km6 cm6, .slice qm6 jm6 dm6] 72) (.cells #[.bool false, .slice none 0 0, .slice none 0 0] 26)
  obtain ⟨W, hW⟩ : ∃ W, (w.alloc (.cells #[.bool sm1, .slice pm1 km1 cm1, .slice qm1 jm1 dm1, .bool sm2, .slice pm2 km2 cm2, .slice qm2 jm2 dm2, .bool sm3, .slice pm3 km3 cm3, .slice qm3 jm3 dm3, .bool sm4, .slice pm4 km4 cm4, .slice qm4 jm4 dm4, .bool sm5, .slice pm5 km5 cm5, .slice qm5 jm5 dm5, .bool sm6, .slice pm6 km6 cm6, .slice qm6 jm6 dm6] 72)).alloc (.cells #[.bool false, .slice none 0 0, .slice none 0 0] 26) = W := ⟨_, rfl⟩
  rw [hW] at hXp0 hXR hbw ⊢
  obtain ⟨Xp0, eXp0⟩ : ∃ X, w.heap.size = X := ⟨_, rfl⟩
  obtain ⟨XR, eXR⟩ : ∃ X, Xp0 + 1 = X := ⟨_, rfl⟩
  rw [eXp0, eXR]
  rw [eXp0] at hXp0 hXR
  rw [eXR] at hXR
  have HXp0 := Lib.hid hXp0
  have HXR := Lib.hid hXR
  have HBW := Lib.hid hbw
  have HGEXp0 : Hid (w.heap.size ≤ Xp0) := by unfold Hid; omega
  have HGEXR : Hid (w.heap.size ≤ XR) := by unfold Hid; omega
  have HLT : Hid (Xp0 < XR) := by unfold Hid; omega
  clear hW hbw hXp0 hXR eXp0 eXR
  refine region_flow 5 [[], [0], [], [2], [1, 3]] [.is (.agg #[.bool sm1, .slice pm1 km1 cm1, .slice qm1 jm1 dm1, .bool sm2, .slice pm2 km2 cm2, .slice qm2 jm2 dm2, .bool sm3, .slice pm3 km3 cm3, .slice qm3 jm3 dm3, .bool sm4, .slice pm4 km4 cm4, .slice qm4 jm4 dm4, .bool sm5, .slice pm5 km5 cm5, .slice qm5 jm5 dm5, .bool sm6, .slice pm6 km6 cm6, .slice qm6 jm6 dm6]), .has (fun v w => PS nm w v R1 R2), .is (.agg #[.bool sm1, .slice pm1 km1 cm1, .slice qm1 jm1 dm1, .bool sm2, .slice pm2 km2 cm2, .slice qm2 jm2 dm2, .bool sm3, .slice pm3 km3 cm3, .slice qm3 jm3 dm3, .bool sm4, .slice pm4 km4 cm4, .slice qm4 jm4 dm4, .bool sm5, .slice pm5 km5 cm5, .slice qm5 jm5 dm5, .bool sm6, .slice pm6 km6 cm6, .slice qm6 jm6 dm6]), .has (fun v w => PS nm w v R3 R4), .has (fun v w => RN (nm + nm + (nm + nm) + 1) w v R5)] (by kernel_rfl) (by kernel_rfl) rfl (by simp only [Steady]; exact ⟨fun _ _ _ h hb => h.bel hb, fun _ _ _ h hb => h.bel hb, fun _ _ _ h hb => h.bel hb, trivial⟩) ?_
  simp only [List.take_succ_cons, List.take_zero, List.drop_succ_cons, List.drop_zero]
  refine fV (by rfl) (fun w1 hw1 _ => load_at rfl rfl (hw1.heap HXp0.out) rfl Tryz.underlying72 rfl (by kernel_rfl)) ?_
  simp only [Act.put, sA, sB, sC]
  refine fH (by rfl) (by intro w1 hw1 hk1; exact HC1_1.out _ _ (HPm.out.bel (HBW.out.trans hw1))) (by intro; go_simp) (fun v1 => ?_)
  simp only [Act.put, sA, sB, sC]
  refine fV (by rfl) (fun w1 hw1 _ => load_at rfl rfl (hw1.heap HXp0.out) rfl Tryz.underlying72 rfl (by kernel_rfl)) ?_
  simp only [Act.put, sA, sB, sC]
  refine fH (by rfl) (by intro w1 hw1 hk1; exact HC1_3.out _ _ (HPm.out.bel (HBW.out.trans hw1))) (by intro; go_simp) (fun v3 => ?_)
  simp only [Act.put, sA, sB, sC]
  refine fH (by rfl) (by intro w1 hw1 hk1; obtain ⟨g3, g1, -⟩ := hk1; exact HC1_4.out _ _ _ g1 g3) (by intro; go_simp) (fun v4 => ?_)
  simp only [Act.put, sA, sB, sC]
  intro W1 hW1 hk1
  obtain ⟨g4, g3, g1, -⟩ := hk1
  obtain ⟨sr4_1x1, pr4_1x1, kr4_1x1, cr4_1x1, qr4_1x1, jr4_1x1, dr4_1x1, rfl⟩ := g4.parts
  have HV := Lib.hid g4
  have hfb := Lib.hid (HBW.out.trans hW1)
  have hhX := hW1.heap HXR.out
  have HHX := Lib.hid hhX
  clear hhX hW1 g1 g3 g4
  have ht := stoW (w := w) (t := 26) [.bool sr4_1x1, .slice pr4_1x1 kr4_1x1 cr4_1x1, .slice qr4_1x1 jr4_1x1 dr4_1x1] HHX.out hfb.out rfl rfl HGEXR.out
  refine lt_store rfl rfl rfl rfl HHX.out rfl (by kernel_rfl) rfl rfl ?_
  generalize hWR : World.setCells _ _ _ _ = WR
  go_wp2
  rw [hWR] at ht
  exact bodyPost_ret (results_cell_row Tryz.results63 _ _ XR _ _ _ _ rfl ht.heap Tryz.underlying26 rfl (by kernel_rfl)) rfl ⟨_, rfl, ht.bel, HV.out.lim ht.lim⟩
end Go.Proofs.YtafmfnpjhhaikaaGreatDoor
