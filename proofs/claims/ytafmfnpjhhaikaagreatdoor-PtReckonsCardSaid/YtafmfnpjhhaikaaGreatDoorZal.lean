/-
  rat: the difference and the product of two good fractions; what is made of two fractions.
-/
import Derived.Test.YtafmfnpjhhaikaaGreatDoorZak
namespace Go.Proofs.YtafmfnpjhhaikaaGreatDoor
open Go.RowKit Go.Shelf
set_option maxHeartbeats 4000000 in
set_option maxRecDepth 100000 in
theorem mk_sub1 {w : World} {a b : Value} {x y : Rat} {i j : Nat} (ha : RC w a x) (hb : RC w b y) (hx : Sz i x) (hy : Sz j y) (hl : i + j < LimK) {X : Nat} (hX : w.heap[X]? = some (.cells #[addF] 69 (0, 0))) :
    Calls Tryz.prog 181 #[a, b, .pointer (some ⟨X, 0, none⟩)] w (Makes w fun v w' => RC w' v (x - y)) := by
  have fy := hy.fit (by omega)
  obtain ⟨p1, k1, c1, p2, k2, c2, rfl, hu1, hd1⟩ := ha.slice
  obtain ⟨p3, k3, c3, p4, k4, c4, rfl, hu2, hd2⟩ := hb.slice
  have HNG := Lib.hid (fun X (hX : Bel w X) => mk_zneg (w := X) (ZC.zi ⟨_, rfl, hu2.bel hX⟩ fy.1))
  have HAD : Hid (∀ X (_ : Bel w X) v, RC X v (-y) → _) := fun X hX v hv => mk_add1 (w := X) (ha.bel hX) hv hx hy.neg hl
  rw [← Rat.sub_eq_add_neg] at HAD
  have HD2 := Lib.hid hd2
  have HXA := Lib.hid hX
  obtain ⟨R, hR⟩ : ∃ R, x - y = R := ⟨_, rfl⟩
  rw [hR] at HAD ⊢
  obtain ⟨s1, hs1⟩ : ∃ s, decide (x.num < 0) = s := ⟨_, rfl⟩
  obtain ⟨s2, hs2⟩ : ∃ s, decide (y.num < 0) = s := ⟨_, rfl⟩
  rw [hs1] at HAD ⊢
  rw [hs2] at HNG ⊢
  clear ha hb hx hy hl hu1 hd1 hu2 hd2 fy hR hs1 hs2 hX
  go_enter Tryz.func181, Tryz.ntmps181
  go_upto_region 1 with fail
  obtain ⟨hX3, hX4, hX5, hbw⟩ := boxes3 w (.cells #[.bool s1, .slice p1 k1 c1, .slice p2 k2 c2] 26) (.cells #[.bool s2, .slice p3 k3 c3, .slice p4 k4 c4] 26) (.cells #[.bool false, .slice none 0 0, .slice none 0 0] 26)
  obtain ⟨W, hW⟩ : ∃ W, ((w.alloc (.cells #[.bool s1, .slice p1 k1 c1, .slice p2 k2 c2] 26)).alloc (.cells #[.bool s2, .slice p3 k3 c3, .slice p4 k4 c4] 26)).alloc (.cells #[.bool false, .slice none 0 0, .slice none 0 0] 26) = W := ⟨_, rfl⟩
  rw [hW] at hX3 hX4 hX5 hbw ⊢
  obtain ⟨X3, eX3⟩ : ∃ X, w.heap.size = X := ⟨_, rfl⟩
  obtain ⟨X4, eX4⟩ : ∃ X, X3 + 1 = X := ⟨_, rfl⟩
  obtain ⟨X5, eX5⟩ : ∃ X, X4 + 1 = X := ⟨_, rfl⟩
  rw [eX3, eX4, eX5]
  rw [eX3] at hX3 hX4 hX5
  rw [eX4] at hX4 hX5
  rw [eX5] at hX5
  have HX3 := Lib.hid hX3
  have HX4 := Lib.hid hX4
  have HX5 := Lib.hid hX5
  have HBW := Lib.hid hbw
  have HGEX3 : Hid (w.heap.size ≤ X3) := by unfold Hid; omega
  have HGEX4 : Hid (w.heap.size ≤ X4) := by unfold Hid; omega
  have HGEX5 : Hid (w.heap.size ≤ X5) := by unfold Hid; omega
  have HLT : Hid (X3 < X4 ∧ X4 < X5) := by unfold Hid; omega
  clear hW hbw hX3 hX4 hX5 eX3 eX4 eX5
  have HXA' := Lib.hid (HBW.out.heap HXA.out)
  unfold addF at HXA'
  refine region_flow 9 [[], [], [], [2], [3], [], [5], [4, 6], [0, 1, 7]] [.is (.func (.func 180) #[] #[]), .is (.agg #[.bool s1, .slice p1 k1 c1, .slice p2 k2 c2]), .is (.pointer (some ⟨X4, 0, none⟩)), .is (.agg #[.bool s2, .slice p3 k3 c3]), .has (fun v w => ZC w v (-y.num)), .is (.pointer (some ⟨X4, 2, none⟩)), .is (.slice p4 k4 c4), .has (fun v w => RC w v (-y)), .has (fun v w => RC w v R)] (by kernel_rfl) (by kernel_rfl) rfl (by simp only [Steady]; exact ⟨fun _ _ _ h hb => h.bel hb, fun _ _ _ h hb => h.bel hb, fun _ _ _ h hb => h.bel hb, trivial⟩) ?_
  simp only [List.take_succ_cons, List.take_zero, List.drop_succ_cons, List.drop_zero]
  refine fV (by rfl) (by intro w1 hw1 hk1; have c0 : w1.cell? ⟨X, 0, none⟩ = some (.func (.func 180) #[] #[]) := (heap_cell (hw1.heap HXA'.out) 0).trans rfl; go_simp) ?_
  simp only [Act.put, sA, sB, sC]
  refine fV (by rfl) (by intro w1 hw1 hk1; obtain ⟨c0, c1, c2⟩ := boxc3 (hw1.heap HX3.out); go_simp) ?_
  simp only [Act.put, sA, sB, sC]
  refine fV (by rfl) (by intro w1 hw1 hk1; go_simp) ?_
  simp only [Act.put, sA, sB, sC]
  refine fV (by rfl) (by intro w1 hw1 hk1; obtain ⟨c0, c1, -⟩ := boxc3 (hw1.heap HX4.out); go_simp) ?_
  simp only [Act.put, sA, sB, sC]
  refine fH (by rfl) (by intro w1 hw1 hk1; exact HNG.out _ (HBW.out.trans hw1)) (by intro; go_simp) (fun v4 => ?_)
  simp only [Act.put, sA, sB, sC]
  refine fV (by rfl) (by intro w1 hw1 hk1; go_simp) ?_
  simp only [Act.put, sA, sB, sC]
  refine fV (by rfl) (by intro w1 hw1 hk1; have c2 : w1.cell? ⟨X4, 2, none⟩ = some (.slice p4 k4 c4) := (heap_cell (hw1.heap HX4.out) 2).trans rfl; go_simp) ?_
  simp only [Act.put, sA, sB, sC]
  refine flow_has (by intro w1 hw1 hk1; obtain ⟨g4, -⟩ := hk1; obtain ⟨p, k, c, rfl, hz⟩ := g4.slice; refine want (by rfl) (gives_of (c := .agg #[.bool (decide (-y.num < 0)), .slice p k c, .slice p4 k4 c4]) (by go_simp) ?_); exact ⟨_, _, by rw [Rat.neg_num], by rw [Rat.neg_num]; exact hz, by rw [Rat.neg_den]; exact HD2.out.bel (HBW.out.trans hw1)⟩) (fun v7 => ?_)
  simp only [Act.put, sA, sB, sC]
  refine fH (by rfl) (by intro w1 hw1 hk1; obtain ⟨g7, -, -⟩ := hk1; exact HAD.out _ (HBW.out.trans hw1) _ g7) (by intro; go_simp) (fun v8 => ?_)
  simp only [Act.put, sA, sB, sC]
  intro w1 hw1 hk1
  obtain ⟨g8, g7, g4, -⟩ := hk1
  obtain ⟨p6, k6, c6, p7, k7, c7, rfl, -⟩ := g8.slice
  have HV := Lib.hid g8
  have HB3 := Lib.hid hw1
  have hhX5 := (hw1).heap HX5.out
  have HHX5 := Lib.hid hhX5
  have dX50 : w1.cell? ⟨X5, 0, none⟩ = some (.bool false) := (heap_cell hhX5 0).trans rfl
  have fX50 : w1.frozen? ⟨X5, 0, none⟩ = false := heap_frozen hhX5 0
  have dX51 : w1.cell? ⟨X5, 1, none⟩ = some (.slice none 0 0) := (heap_cell hhX5 1).trans rfl
  have fX51 : w1.frozen? ⟨X5, 1, none⟩ = false := heap_frozen hhX5 1
  have dX52 : w1.cell? ⟨X5, 2, none⟩ = some (.slice none 0 0) := (heap_cell hhX5 2).trans rfl
  have fX52 : w1.frozen? ⟨X5, 2, none⟩ = false := heap_frozen hhX5 2
  clear hhX5
  clear hw1 g8 g7 g4
  go_wp2
  obtain ⟨kb, kp, kh⟩ := finAll (vs := [.bool (decide (R.num < 0)), .slice p6 k6 c6, .slice p7 k7 c7]) (HBW.out.trans HB3.out) HHX5.out rfl HGEX5.out (Φ := fun W2 => RC W2 (.agg #[.bool (decide (R.num < 0)), .slice p6 k6 c6, .slice p7 k7 c7]) R) (fun W2 ho => HV.out.only ho HHX5.out (noInt_rat _ _ _ _ _ _ _))
  have kk0 : (setAll w1 X5 0 [.bool (decide (R.num < 0)), .slice p6 k6 c6, .slice p7 k7 c7]).cell? ⟨X5, 0, none⟩ = some (.bool (decide (R.num < 0))) := (heap_cell kh 0).trans rfl
  have kk1 : (setAll w1 X5 0 [.bool (decide (R.num < 0)), .slice p6 k6 c6, .slice p7 k7 c7]).cell? ⟨X5, 1, none⟩ = some (.slice p6 k6 c6) := (heap_cell kh 1).trans rfl
  have kk2 : (setAll w1 X5 0 [.bool (decide (R.num < 0)), .slice p6 k6 c6, .slice p7 k7 c7]).cell? ⟨X5, 2, none⟩ = some (.slice p7 k7 c7) := (heap_cell kh 2).trans rfl
  simp only [setAll] at kb kp kk0 kk1 kk2
  exact bodyPost_ret (v := .agg #[.bool (decide (R.num < 0)), .slice p6 k6 c6, .slice p7 k7 c7]) (by simp [results, Tryz.results181, go_sem, kk0, kk1, kk2]) rfl ⟨_, rfl, kb, kp⟩
set_option maxHeartbeats 4000000 in
set_option maxRecDepth 100000 in
theorem mk_mul1 {w : World} {a b : Value} {x y : Rat} {i j : Nat} (ha : RC w a x) (hb : RC w b y) (hx : Sz i x) (hy : Sz j y) (hl : i + j < LimK) : Calls Tryz.prog 182 #[a, b] w (Makes w fun v w' => RC w' v (x * y)) := by
  obtain ⟨p1, k1, c1, p2, k2, c2, rfl, hu1, hd1⟩ := ha.slice
  obtain ⟨p3, k3, c3, p4, k4, c4, rfl, hu2, hd2⟩ := hb.slice
  have fx := hx.fit (by omega)
  have fy := hy.fit (by omega)
  have e1 : (x.num * y.num).natAbs < B64 ^ (i + j) := by rw [Int.natAbs_mul]; exact mul_lt hx.1 hy.1
  have e4 : Fit (x.den * y.den) := mul_fit hx.2 hy.2 (by omega)
  have hn0 : x.den * y.den ≠ 0 := Nat.mul_ne_zero x.den_nz y.den_nz
  have lk : i + j < 400000000 := by unfold LimK at hl; omega
  have HM1 := Lib.hid (fun X (hX : Bel w X) => mk_zmul (w := X) (ZC.zi ⟨_, rfl, hu1.bel hX⟩ fx.1) (ZC.zi ⟨_, rfl, hu2.bel hX⟩ fy.1) (fit_of e1 lk))
  have HN := Lib.hid (fun X (hX : Bel w X) => mk_mul ((hd1.bel hX).ni' fx.2) ((hd2.bel hX).ni' fy.2))
  have HR : Hid (∀ X u v, ZC X u (x.num * y.num) → NC X v (x.den * y.den) → _) := fun X u v hu hv => mk_rmade (w := X) (hu.zi (fit_of e1 lk)) (hv.ni' e4) hn0
  rw [← rat_mul] at HR
  obtain ⟨R, hR⟩ : ∃ R, x * y = R := ⟨_, rfl⟩
  obtain ⟨Z1, hZ1⟩ : ∃ Z, x.num * y.num = Z := ⟨_, rfl⟩
  rw [hZ1] at HM1 HR
  rw [hR] at HR ⊢
  obtain ⟨s1, hs1⟩ : ∃ s, decide (x.num < 0) = s := ⟨_, rfl⟩
  obtain ⟨s2, hs2⟩ : ∃ s, decide (y.num < 0) = s := ⟨_, rfl⟩
  rw [hs1, hs2] at HM1 ⊢
  clear ha hb hx hy hl hu1 hd1 hu2 hd2 fx fy e1 e4 hn0 lk hR hZ1 hs1 hs2
  go_enter Tryz.func182, Tryz.ntmps182
  go_upto_region 1 with fail
  obtain ⟨hX2, hX3, hX4, hbw⟩ := boxes3 w (.cells #[.bool s1, .slice p1 k1 c1, .slice p2 k2 c2] 26) (.cells #[.bool s2, .slice p3 k3 c3, .slice p4 k4 c4] 26) (.cells #[.bool false, .slice none 0 0, .slice none 0 0] 26)
  obtain ⟨W, hW⟩ : ∃ W, ((w.alloc (.cells #[.bool s1, .slice p1 k1 c1, .slice p2 k2 c2] 26)).alloc (.cells #[.bool s2, .slice p3 k3 c3, .slice p4 k4 c4] 26)).alloc (.cells #[.bool false, .slice none 0 0, .slice none 0 0] 26) = W := ⟨_, rfl⟩
  rw [hW] at hX2 hX3 hX4 hbw ⊢
  obtain ⟨X2, eX2⟩ : ∃ X, w.heap.size = X := ⟨_, rfl⟩
  obtain ⟨X3, eX3⟩ : ∃ X, X2 + 1 = X := ⟨_, rfl⟩
  obtain ⟨X4, eX4⟩ : ∃ X, X3 + 1 = X := ⟨_, rfl⟩
  rw [eX2, eX3, eX4]
  rw [eX2] at hX2 hX3 hX4
  rw [eX3] at hX3 hX4
  rw [eX4] at hX4
  have HX2 := Lib.hid hX2
  have HX3 := Lib.hid hX3
  have HX4 := Lib.hid hX4
  have HBW := Lib.hid hbw
  have HGEX2 : Hid (w.heap.size ≤ X2) := by unfold Hid; omega
  have HGEX3 : Hid (w.heap.size ≤ X3) := by unfold Hid; omega
  have HGEX4 : Hid (w.heap.size ≤ X4) := by unfold Hid; omega
  have HLT : Hid (X2 < X3 ∧ X3 < X4) := by unfold Hid; omega
  clear hW hbw hX2 hX3 hX4 eX2 eX3 eX4
  refine region_flow 11 [[], [0], [], [2], [1, 3], [], [5], [], [7], [6, 8], [4, 9]] [.is (.pointer (some ⟨X2, 0, none⟩)), .is (.agg #[.bool s1, .slice p1 k1 c1]), .is (.pointer (some ⟨X3, 0, none⟩)), .is (.agg #[.bool s2, .slice p3 k3 c3]), .has (fun v w => ZC w v Z1), .is (.pointer (some ⟨X2, 2, none⟩)), .is (.slice p2 k2 c2), .is (.pointer (some ⟨X3, 2, none⟩)), .is (.slice p4 k4 c4), .has (fun v w => NC w v (x.den * y.den)), .has (fun v w => RC w v R)] (by kernel_rfl) (by kernel_rfl) rfl (by simp only [Steady]; exact ⟨fun _ _ _ h hb => h.bel hb, fun _ _ _ h hb => h.bel hb, fun _ _ _ h hb => h.bel hb, trivial⟩) ?_
  simp only [List.take_succ_cons, List.take_zero, List.drop_succ_cons, List.drop_zero]
  refine fV (by rfl) (by intro w1 hw1 hk1; go_simp) ?_
  simp only [Act.put, sA, sB, sC]
  refine fV (by rfl) (by intro w1 hw1 hk1; obtain ⟨c0, c1, -⟩ := boxc3 (hw1.heap HX2.out); go_simp) ?_
  simp only [Act.put, sA, sB, sC]
  refine fV (by rfl) (by intro w1 hw1 hk1; go_simp) ?_
  simp only [Act.put, sA, sB, sC]
  refine fV (by rfl) (by intro w1 hw1 hk1; obtain ⟨c0, c1, -⟩ := boxc3 (hw1.heap HX3.out); go_simp) ?_
  simp only [Act.put, sA, sB, sC]
  refine fH (by rfl) (by intro w1 hw1 hk1; exact HM1.out _ (HBW.out.trans hw1)) (by intro; go_simp) (fun v4 => ?_)
  simp only [Act.put, sA, sB, sC]
  refine fV (by rfl) (by intro w1 hw1 hk1; go_simp) ?_
  simp only [Act.put, sA, sB, sC]
  refine fV (by rfl) (by intro w1 hw1 hk1; have c2 : w1.cell? ⟨X2, 2, none⟩ = some (.slice p2 k2 c2) := (heap_cell (hw1.heap HX2.out) 2).trans rfl; go_simp) ?_
  simp only [Act.put, sA, sB, sC]
  refine fV (by rfl) (by intro w1 hw1 hk1; go_simp) ?_
  simp only [Act.put, sA, sB, sC]
  refine fV (by rfl) (by intro w1 hw1 hk1; have c2 : w1.cell? ⟨X3, 2, none⟩ = some (.slice p4 k4 c4) := (heap_cell (hw1.heap HX3.out) 2).trans rfl; go_simp) ?_
  simp only [Act.put, sA, sB, sC]
  refine fH (by rfl) (by intro w1 hw1 hk1; exact HN.out _ (HBW.out.trans hw1)) (by intro; go_simp) (fun v9 => ?_)
  simp only [Act.put, sA, sB, sC]
  refine fH (by rfl) (by intro w1 hw1 hk1; obtain ⟨g9, g4, -⟩ := hk1; exact HR.out _ _ _ g4 g9) (by intro; go_simp) (fun v10 => ?_)
  simp only [Act.put, sA, sB, sC]
  intro w1 hw1 hk1
  obtain ⟨g10, g9, g4, -⟩ := hk1
  obtain ⟨p6, k6, c6, p7, k7, c7, rfl, -⟩ := g10.slice
  have HV := Lib.hid g10
  have HB3 := Lib.hid hw1
  have hhX4 := (hw1).heap HX4.out
  have HHX4 := Lib.hid hhX4
  have dX40 : w1.cell? ⟨X4, 0, none⟩ = some (.bool false) := (heap_cell hhX4 0).trans rfl
  have fX40 : w1.frozen? ⟨X4, 0, none⟩ = false := heap_frozen hhX4 0
  have dX41 : w1.cell? ⟨X4, 1, none⟩ = some (.slice none 0 0) := (heap_cell hhX4 1).trans rfl
  have fX41 : w1.frozen? ⟨X4, 1, none⟩ = false := heap_frozen hhX4 1
  have dX42 : w1.cell? ⟨X4, 2, none⟩ = some (.slice none 0 0) := (heap_cell hhX4 2).trans rfl
  have fX42 : w1.frozen? ⟨X4, 2, none⟩ = false := heap_frozen hhX4 2
  clear hhX4
  clear hw1 g10 g9 g4
  go_wp2
  obtain ⟨kb, kp, kh⟩ := finAll (vs := [.bool (decide (R.num < 0)), .slice p6 k6 c6, .slice p7 k7 c7]) (HBW.out.trans HB3.out) HHX4.out rfl HGEX4.out (Φ := fun W2 => RC W2 (.agg #[.bool (decide (R.num < 0)), .slice p6 k6 c6, .slice p7 k7 c7]) R) (fun W2 ho => HV.out.only ho HHX4.out (noInt_rat _ _ _ _ _ _ _))
  have kk0 : (setAll w1 X4 0 [.bool (decide (R.num < 0)), .slice p6 k6 c6, .slice p7 k7 c7]).cell? ⟨X4, 0, none⟩ = some (.bool (decide (R.num < 0))) := (heap_cell kh 0).trans rfl
  have kk1 : (setAll w1 X4 0 [.bool (decide (R.num < 0)), .slice p6 k6 c6, .slice p7 k7 c7]).cell? ⟨X4, 1, none⟩ = some (.slice p6 k6 c6) := (heap_cell kh 1).trans rfl
  have kk2 : (setAll w1 X4 0 [.bool (decide (R.num < 0)), .slice p6 k6 c6, .slice p7 k7 c7]).cell? ⟨X4, 2, none⟩ = some (.slice p7 k7 c7) := (heap_cell kh 2).trans rfl
  simp only [setAll] at kb kp kk0 kk1 kk2
  exact bodyPost_ret (v := .agg #[.bool (decide (R.num < 0)), .slice p6 k6 c6, .slice p7 k7 c7]) (by simp [results, Tryz.results182, go_sem, kk0, kk1, kk2]) rfl ⟨_, rfl, kb, kp⟩
theorem opsOnce_any (W : World) : Calls Tryz.prog 110 #[.pointer (some ⟨W.heap.size, 0, none⟩), .func (.func 146) #[.pointer (some ⟨W.heap.size, 0, none⟩)] #[]] (W.alloc (.cells #[.int .u32 0, .int .i32 0, .int .u32 0, .slice none 0 0] 179)) fun e w' =>
    e = .returned (.tuple #[]) ∧ Bel W w' ∧ OpsList W.heap.size (.int .u32 1) (.int .i32 0) (.int .u32 0) w' := by
  obtain ⟨b, hb⟩ : ∃ b, W.heap.size = b := ⟨_, rfl⟩
  have h0 : (W.alloc (.cells #[.int .u32 0, .int .i32 0, .int .u32 0, .slice none 0 0] 179)).heap[b]? = some (.cells #[.int .u32 0, .int .i32 0, .int .u32 0, .slice none 0 0] 179 (0, 0)) := alloc_heap hb
  have hbel : Bel W (W.alloc (.cells #[.int .u32 0, .int .i32 0, .int .u32 0, .slice none 0 0] 179)) := (Bel.refl W).alloc _
  rw [hb]
  generalize W.alloc (.cells #[.int .u32 0, .int .i32 0, .int .u32 0, .slice none 0 0] 179) = V at h0 hbel ⊢
  have h1 : (V.setCell ⟨b, 1, none⟩ (.int .i32 1)).heap[b]? = some (.cells #[.int .u32 0, .int .i32 1, .int .u32 0, .slice none 0 0] 179 (0, 0)) := by simp [World.setCell, Array.getElem?_modify, h0]
  have hb1 : Bel W (V.setCell ⟨b, 1, none⟩ (.int .i32 1)) := hbel.set (p := ⟨b, 1, none⟩) (Nat.le_of_eq hb) _
  refine (once_do b 146 V (fun w' => OpsList b (.int .u32 0) (.int .i32 1) (.int .u32 0) w' ∧ Bel W w') ((heap_cell h0 0).trans rfl) ((heap_cell h0 1).trans rfl) (heap_frozen h0 0) (heap_frozen h0 1) (fun w => by kernel_rfl)
    ((opsFill_any b _ _ _ _ _ h1).mono fun e w' ⟨he, hl, hg⟩ => ⟨he, hl, But.bel hb1 hg (fun k hk => by cases hk; omega)⟩) (fun w' ⟨⟨L, X, h2, _⟩, _⟩ => ⟨(heap_cell h2 0).trans rfl, (heap_cell h2 1).trans rfl, heap_frozen h2 0, heap_frozen h2 1⟩)).mono ?_
  rintro e w' ⟨rfl, w1, ⟨⟨L, X, h2, h3, h4⟩, h5⟩, rfl⟩
  have hLb : L ≠ b := by rintro rfl; rw [h2] at h3; simp at h3
  have hXb : X ≠ b := by rintro rfl; rw [h2] at h4; simp at h4
  refine ⟨rfl, (h5.drew.set (p := ⟨b, 0, none⟩) (Nat.le_of_eq hb) _).set (p := ⟨b, 1, none⟩) (Nat.le_of_eq hb) _, L, X, ?_, heap_other (heap_other (w := w1.drew) h3 (Ne.symm hLb) _) (Ne.symm hLb) _, heap_other (heap_other (w := w1.drew) h4 (Ne.symm hXb) _) (Ne.symm hXb) _⟩
  have h6 : w1.drew.heap[b]? = some (.cells #[.int .u32 0, .int .i32 1, .int .u32 0, .slice (some ⟨L, 0, none⟩) 3 3] 179 (0, 0)) := h2
  simp [World.setCell, Array.getElem?_modify, h6]
set_option maxHeartbeats 4000000 in
set_option maxRecDepth 100000 in
theorem mk_do0 {w : World} {a b : Value} {x y : Rat} {i j : Nat} (ha : RS i w a x) (hb : RS j w b y) (hl : i + j < LimK) : Calls Tryz.prog 98 #[.int .i64 0, a, b] w (Makes w fun v w' => RC w' v (x + y)) := by
  have hx := ha.2
  have hy := hb.2
  have HGA := Lib.hid (fun X (hX : Bel w X) => mk_rgood (ha.1.bel hX))
  have HGB := Lib.hid (fun X (hX : Bel w X) => mk_rgood (hb.1.bel hX))
  have HO : Hid (∀ X u v, RC X u x → RC X v y → _) := fun X u v hu hv => mk_add1 (w := X) hu hv hx hy hl
  obtain ⟨R, hR⟩ : ∃ R, x + y = R := ⟨_, rfl⟩
  rw [hR] at HO ⊢
  obtain ⟨s1, p1, k1, c1, p2, k2, c2, m1, m2, rfl, -⟩ := ha.1.slice
  obtain ⟨s2, p3, k3, c3, p4, k4, c4, m3, m4, rfl, -⟩ := hb.1.slice
  clear ha hb hx hy hl hR
  go_enter Tryz.func98, Tryz.ntmps98
  go_upto_region 1 with fail
  obtain ⟨hX4, hX5, hX6, hbw⟩ := boxes3 w (.cells #[.bool s1, .slice p1 k1 c1, .slice p2 k2 c2] 26) (.cells #[.bool s2, .slice p3 k3 c3, .slice p4 k4 c4] 26) (.cells #[.bool false, .slice none 0 0, .slice none 0 0] 26)
  obtain ⟨W, hW⟩ : ∃ W, ((w.alloc (.cells #[.bool s1, .slice p1 k1 c1, .slice p2 k2 c2] 26)).alloc (.cells #[.bool s2, .slice p3 k3 c3, .slice p4 k4 c4] 26)).alloc (.cells #[.bool false, .slice none 0 0, .slice none 0 0] 26) = W := ⟨_, rfl⟩
  rw [hW] at hX4 hX5 hX6 hbw ⊢
  obtain ⟨X4, eX4⟩ : ∃ X, w.heap.size = X := ⟨_, rfl⟩
  obtain ⟨X5, eX5⟩ : ∃ X, X4 + 1 = X := ⟨_, rfl⟩
  obtain ⟨X6, eX6⟩ : ∃ X, X5 + 1 = X := ⟨_, rfl⟩
  rw [eX4, eX5, eX6]
  rw [eX4] at hX4 hX5 hX6
  rw [eX5] at hX5 hX6
  rw [eX6] at hX6
  have HX4 := Lib.hid hX4
  have HX5 := Lib.hid hX5
  have HX6 := Lib.hid hX6
  have HBW := Lib.hid hbw
  have HGEX4 : Hid (w.heap.size ≤ X4) := by unfold Hid; omega
  have HGEX5 : Hid (w.heap.size ≤ X5) := by unfold Hid; omega
  have HGEX6 : Hid (w.heap.size ≤ X6) := by unfold Hid; omega
  have HLT : Hid (X4 < X5 ∧ X5 < X6) := by unfold Hid; omega
  clear hW hbw hX4 hX5 hX6 eX4 eX5 eX6
  have HON := Lib.hid (opsOnce_any W)
  have hmf : ∀ (fn : Fn) (first cap : Array Value) (w : World), (Instr.makeFunc fn first cap).run Tryz.prog w = .ok (.func fn first cap) w := fun _ _ _ _ => rfl
  go_upto_region 3 with (go_at_call 110; (with_reducible refine HON.out.mono ?_); rintro e w2 ⟨rfl, hb2, L, X, hx7, hL, hX⟩; have HB2 := Lib.hid hb2; have HX7 := Lib.hid hx7; have HXL := Lib.hid hL; have HXX := Lib.hid hX; clear hb2 hx7 hL hX)
  clear HON hmf
  obtain ⟨X7, hX7⟩ : ∃ X, W.heap.size = X := ⟨_, rfl⟩
  rw [hX7] at HX7 ⊢
  clear hX7
  have HX4' := Lib.hid (HB2.out.heap HX4.out)
  have HX5' := Lib.hid (HB2.out.heap HX5.out)
  refine region_flow 10 [[], [0], [], [1, 2], [3], [], [5], [], [7], [4, 6, 8]] [.is (.pointer (some ⟨X7, 3, none⟩)), .is (.slice (some ⟨L, 0, none⟩) 3 3), .is (.int .i64 0), .is (.pointer (some ⟨L, 0, none⟩)), .is (.func (.func 180) #[] #[]), .is (.agg #[.bool s1, .slice p1 k1 c1, .slice p2 k2 c2]), .has (fun v w => RC w v x), .is (.agg #[.bool s2, .slice p3 k3 c3, .slice p4 k4 c4]), .has (fun v w => RC w v y), .has (fun v w => RC w v R)] (by kernel_rfl) (by kernel_rfl) rfl (by simp only [Steady]; exact ⟨fun _ _ _ h hb => h.bel hb, fun _ _ _ h hb => h.bel hb, fun _ _ _ h hb => h.bel hb, trivial⟩) ?_
  simp only [List.take_succ_cons, List.take_zero, List.drop_succ_cons, List.drop_zero]
  refine fV (by rfl) (by intro w1 hw1 hk1; go_simp) ?_
  simp only [Act.put, sA, sB, sC]
  refine fV (by rfl) (by intro w1 hw1 hk1; have c3 : w1.cell? ⟨X7, 3, none⟩ = some (.slice (some ⟨L, 0, none⟩) 3 3) := (heap_cell (hw1.heap HX7.out) 3).trans rfl; go_simp) ?_
  simp only [Act.put, sA, sB, sC]
  refine fV (by rfl) (by intro w1 hw1 hk1; go_simp) ?_
  simp only [Act.put, sA, sB, sC]
  refine fV (by rfl) (by intro w1 hw1 hk1; go_simp) ?_
  simp only [Act.put, sA, sB, sC]
  refine fV (by rfl) (by intro w1 hw1 hk1; have c0 : w1.cell? ⟨L, 0, none⟩ = some (.func (.func 180) #[] #[]) := (heap_cell (hw1.heap HXL.out) 0).trans rfl; go_simp) ?_
  simp only [Act.put, sA, sB, sC]
  refine fV (by rfl) (by intro w1 hw1 hk1; obtain ⟨c0, c1, c2⟩ := boxc3 (hw1.heap HX4'.out); go_simp) ?_
  simp only [Act.put, sA, sB, sC]
  refine fH (by rfl) (by intro w1 hw1 hk1; exact HGA.out _ (HBW.out.trans (HB2.out.trans hw1))) (by intro; go_simp) (fun v6 => ?_)
  simp only [Act.put, sA, sB, sC]
  refine fV (by rfl) (by intro w1 hw1 hk1; obtain ⟨c0, c1, c2⟩ := boxc3 (hw1.heap HX5'.out); go_simp) ?_
  simp only [Act.put, sA, sB, sC]
  refine fH (by rfl) (by intro w1 hw1 hk1; exact HGB.out _ (HBW.out.trans (HB2.out.trans hw1))) (by intro; go_simp) (fun v8 => ?_)
  simp only [Act.put, sA, sB, sC]
  refine fH (by rfl) (by intro w1 hw1 hk1; obtain ⟨g8, g6, -⟩ := hk1; exact HO.out _ _ _ g6 g8) (by intro; go_simp) (fun v9 => ?_)
  simp only [Act.put, sA, sB, sC]
  intro w1 hw1 hk1
  obtain ⟨g9, g8, g6, -⟩ := hk1
  obtain ⟨p6, k6, c6, p7, k7, c7, rfl, -⟩ := g9.slice
  have HV := Lib.hid g9
  have HB3 := Lib.hid (HB2.out.trans hw1)
  have hhX6 := (HB3.out).heap HX6.out
  have HHX6 := Lib.hid hhX6
  have dX60 : w1.cell? ⟨X6, 0, none⟩ = some (.bool false) := (heap_cell hhX6 0).trans rfl
  have fX60 : w1.frozen? ⟨X6, 0, none⟩ = false := heap_frozen hhX6 0
  have dX61 : w1.cell? ⟨X6, 1, none⟩ = some (.slice none 0 0) := (heap_cell hhX6 1).trans rfl
  have fX61 : w1.frozen? ⟨X6, 1, none⟩ = false := heap_frozen hhX6 1
  have dX62 : w1.cell? ⟨X6, 2, none⟩ = some (.slice none 0 0) := (heap_cell hhX6 2).trans rfl
  have fX62 : w1.frozen? ⟨X6, 2, none⟩ = false := heap_frozen hhX6 2
  clear hhX6
  clear hw1 g9 g8 g6
  go_wp2
  obtain ⟨kb, kp, kh⟩ := finAll (vs := [.bool (decide (R.num < 0)), .slice p6 k6 c6, .slice p7 k7 c7]) (HBW.out.trans HB3.out) HHX6.out rfl HGEX6.out (Φ := fun W2 => RC W2 (.agg #[.bool (decide (R.num < 0)), .slice p6 k6 c6, .slice p7 k7 c7]) R) (fun W2 ho => HV.out.only ho HHX6.out (noInt_rat _ _ _ _ _ _ _))
  have kk0 : (setAll w1 X6 0 [.bool (decide (R.num < 0)), .slice p6 k6 c6, .slice p7 k7 c7]).cell? ⟨X6, 0, none⟩ = some (.bool (decide (R.num < 0))) := (heap_cell kh 0).trans rfl
  have kk1 : (setAll w1 X6 0 [.bool (decide (R.num < 0)), .slice p6 k6 c6, .slice p7 k7 c7]).cell? ⟨X6, 1, none⟩ = some (.slice p6 k6 c6) := (heap_cell kh 1).trans rfl
  have kk2 : (setAll w1 X6 0 [.bool (decide (R.num < 0)), .slice p6 k6 c6, .slice p7 k7 c7]).cell? ⟨X6, 2, none⟩ = some (.slice p7 k7 c7) := (heap_cell kh 2).trans rfl
  simp only [setAll] at kb kp kk0 kk1 kk2
  exact bodyPost_ret (v := .agg #[.bool (decide (R.num < 0)), .slice p6 k6 c6, .slice p7 k7 c7]) (by simp [results, Tryz.results98, go_sem, kk0, kk1, kk2]) rfl ⟨_, rfl, kb, kp⟩
set_option maxHeartbeats 1000000 in
set_option maxRecDepth 100000 in
theorem mk_radd {w : World} {a b : Value} {x y : Rat} {i j : Nat} (ha : RS i w a x) (hb : RS j w b y) (hl : i + j < LimK) : Calls Tryz.prog 47 #[a, b] w (Makes w fun v w' => RC w' v (x + y)) := by
  have HD := Lib.hid (fun X (hX : Bel w X) => mk_do0 (ha.bel hX) (hb.bel hX) hl)
  obtain ⟨R, hR⟩ : ∃ R, x + y = R := ⟨_, rfl⟩
  rw [hR] at HD ⊢
  obtain ⟨s1, p1, k1, c1, p2, k2, c2, m1, m2, rfl, -⟩ := ha.1.slice
  obtain ⟨s2, p3, k3, c3, p4, k4, c4, m3, m4, rfl, -⟩ := hb.1.slice
  clear ha hb hl hR
  go_enter Tryz.func47, Tryz.ntmps47
  go_upto_region 1 with fail
  obtain ⟨hX2, hX3, hX4, hbw⟩ := boxes3 w (.cells #[.bool s1, .slice p1 k1 c1, .slice p2 k2 c2] 26) (.cells #[.bool s2, .slice p3 k3 c3, .slice p4 k4 c4] 26) (.cells #[.bool false, .slice none 0 0, .slice none 0 0] 26)
  obtain ⟨W, hW⟩ : ∃ W, ((w.alloc (.cells #[.bool s1, .slice p1 k1 c1, .slice p2 k2 c2] 26)).alloc (.cells #[.bool s2, .slice p3 k3 c3, .slice p4 k4 c4] 26)).alloc (.cells #[.bool false, .slice none 0 0, .slice none 0 0] 26) = W := ⟨_, rfl⟩
  rw [hW] at hX2 hX3 hX4 hbw ⊢
  obtain ⟨X2, eX2⟩ : ∃ X, w.heap.size = X := ⟨_, rfl⟩
  obtain ⟨X3, eX3⟩ : ∃ X, X2 + 1 = X := ⟨_, rfl⟩
  obtain ⟨X4, eX4⟩ : ∃ X, X3 + 1 = X := ⟨_, rfl⟩
  rw [eX2, eX3, eX4]
  rw [eX2] at hX2 hX3 hX4
  rw [eX3] at hX3 hX4
  rw [eX4] at hX4
  have HX2 := Lib.hid hX2
  have HX3 := Lib.hid hX3
  have HX4 := Lib.hid hX4
  have HBW := Lib.hid hbw
  have HGEX2 : Hid (w.heap.size ≤ X2) := by unfold Hid; omega
  have HGEX3 : Hid (w.heap.size ≤ X3) := by unfold Hid; omega
  have HGEX4 : Hid (w.heap.size ≤ X4) := by unfold Hid; omega
  have HLT : Hid (X2 < X3 ∧ X3 < X4) := by unfold Hid; omega
  clear hW hbw hX2 hX3 hX4 eX2 eX3 eX4
  have a0 : W.cell? ⟨X2, 0, none⟩ = some (.bool s1) := (heap_cell HX2.out 0).trans rfl
  have a1 : W.cell? ⟨X2, 1, none⟩ = some (.slice p1 k1 c1) := (heap_cell HX2.out 1).trans rfl
  have a2 : W.cell? ⟨X2, 2, none⟩ = some (.slice p2 k2 c2) := (heap_cell HX2.out 2).trans rfl
  have b0 : W.cell? ⟨X3, 0, none⟩ = some (.bool s2) := (heap_cell HX3.out 0).trans rfl
  have b1 : W.cell? ⟨X3, 1, none⟩ = some (.slice p3 k3 c3) := (heap_cell HX3.out 1).trans rfl
  have b2 : W.cell? ⟨X3, 2, none⟩ = some (.slice p4 k4 c4) := (heap_cell HX3.out 2).trans rfl
  go_wp2_with (go_at_call 98; (with_reducible refine (HD.out _ HBW.out).mono ?_); rintro e w1 ⟨v1, rfl, hb1, hv1⟩; obtain ⟨p6, k6, c6, p7, k7, c7, rfl, -⟩ := hv1.slice; have HB3 := Lib.hid hb1; have HV := Lib.hid hv1; clear hv1; have hhX4 := (hb1).heap HX4.out; have HHX4 := Lib.hid hhX4; have dX40 : w1.cell? ⟨X4, 0, none⟩ = some (.bool false) := (heap_cell hhX4 0).trans rfl; have fX40 : w1.frozen? ⟨X4, 0, none⟩ = false := heap_frozen hhX4 0; have dX41 : w1.cell? ⟨X4, 1, none⟩ = some (.slice none 0 0) := (heap_cell hhX4 1).trans rfl; have fX41 : w1.frozen? ⟨X4, 1, none⟩ = false := heap_frozen hhX4 1; have dX42 : w1.cell? ⟨X4, 2, none⟩ = some (.slice none 0 0) := (heap_cell hhX4 2).trans rfl; have fX42 : w1.frozen? ⟨X4, 2, none⟩ = false := heap_frozen hhX4 2; clear hhX4; clear hb1)
  obtain ⟨kb, kp, kh⟩ := finAll (vs := [.bool (decide (R.num < 0)), .slice p6 k6 c6, .slice p7 k7 c7]) (HBW.out.trans HB3.out) HHX4.out rfl HGEX4.out (Φ := fun W2 => RC W2 (.agg #[.bool (decide (R.num < 0)), .slice p6 k6 c6, .slice p7 k7 c7]) R) (fun W2 ho => HV.out.only ho HHX4.out (noInt_rat _ _ _ _ _ _ _))
  have kk0 : (setAll w1 X4 0 [.bool (decide (R.num < 0)), .slice p6 k6 c6, .slice p7 k7 c7]).cell? ⟨X4, 0, none⟩ = some (.bool (decide (R.num < 0))) := (heap_cell kh 0).trans rfl
  have kk1 : (setAll w1 X4 0 [.bool (decide (R.num < 0)), .slice p6 k6 c6, .slice p7 k7 c7]).cell? ⟨X4, 1, none⟩ = some (.slice p6 k6 c6) := (heap_cell kh 1).trans rfl
  have kk2 : (setAll w1 X4 0 [.bool (decide (R.num < 0)), .slice p6 k6 c6, .slice p7 k7 c7]).cell? ⟨X4, 2, none⟩ = some (.slice p7 k7 c7) := (heap_cell kh 2).trans rfl
  simp only [setAll] at kb kp kk0 kk1 kk2
  exact bodyPost_ret (v := .agg #[.bool (decide (R.num < 0)), .slice p6 k6 c6, .slice p7 k7 c7]) (by simp [results, Tryz.results47, go_sem, kk0, kk1, kk2]) rfl ⟨_, rfl, kb, kp⟩
set_option maxHeartbeats 4000000 in
set_option maxRecDepth 100000 in
theorem mk_do1 {w : World} {a b : Value} {x y : Rat} {i j : Nat} (ha : RS i w a x) (hb : RS j w b y) (hl : i + j < LimK) : Calls Tryz.prog 98 #[.int .i64 1, a, b] w (Makes w fun v w' => RC w' v (x - y)) := by
  have hx := ha.2
  have hy := hb.2
  have HGA := Lib.hid (fun X (hX : Bel w X) => mk_rgood (ha.1.bel hX))
  have HGB := Lib.hid (fun X (hX : Bel w X) => mk_rgood (hb.1.bel hX))
  have HO : Hid (∀ X u v, RC X u x → RC X v y → ∀ x' : Nat, X.heap[x']? = some (Obj.cells #[addF] 69 (0, 0)) → _) := fun X u v hu hv x' hx' => mk_sub1 (w := X) hu hv hx hy hl hx'
  obtain ⟨R, hR⟩ : ∃ R, x - y = R := ⟨_, rfl⟩
  rw [hR] at HO ⊢
  obtain ⟨s1, p1, k1, c1, p2, k2, c2, m1, m2, rfl, -⟩ := ha.1.slice
  obtain ⟨s2, p3, k3, c3, p4, k4, c4, m3, m4, rfl, -⟩ := hb.1.slice
  clear ha hb hx hy hl hR
  go_enter Tryz.func98, Tryz.ntmps98
  go_upto_region 1 with fail
  obtain ⟨hX4, hX5, hX6, hbw⟩ := boxes3 w (.cells #[.bool s1, .slice p1 k1 c1, .slice p2 k2 c2] 26) (.cells #[.bool s2, .slice p3 k3 c3, .slice p4 k4 c4] 26) (.cells #[.bool false, .slice none 0 0, .slice none 0 0] 26)
  obtain ⟨W, hW⟩ : ∃ W, ((w.alloc (.cells #[.bool s1, .slice p1 k1 c1, .slice p2 k2 c2] 26)).alloc (.cells #[.bool s2, .slice p3 k3 c3, .slice p4 k4 c4] 26)).alloc (.cells #[.bool false, .slice none 0 0, .slice none 0 0] 26) = W := ⟨_, rfl⟩
  rw [hW] at hX4 hX5 hX6 hbw ⊢
  obtain ⟨X4, eX4⟩ : ∃ X, w.heap.size = X := ⟨_, rfl⟩
  obtain ⟨X5, eX5⟩ : ∃ X, X4 + 1 = X := ⟨_, rfl⟩
  obtain ⟨X6, eX6⟩ : ∃ X, X5 + 1 = X := ⟨_, rfl⟩
  rw [eX4, eX5, eX6]
  rw [eX4] at hX4 hX5 hX6
  rw [eX5] at hX5 hX6
  rw [eX6] at hX6
  have HX4 := Lib.hid hX4
  have HX5 := Lib.hid hX5
  have HX6 := Lib.hid hX6
  have HBW := Lib.hid hbw
  have HGEX4 : Hid (w.heap.size ≤ X4) := by unfold Hid; omega
  have HGEX5 : Hid (w.heap.size ≤ X5) := by unfold Hid; omega
  have HGEX6 : Hid (w.heap.size ≤ X6) := by unfold Hid; omega
  have HLT : Hid (X4 < X5 ∧ X5 < X6) := by unfold Hid; omega
  clear hW hbw hX4 hX5 hX6 eX4 eX5 eX6
  have HON := Lib.hid (opsOnce_any W)
  have hmf : ∀ (fn : Fn) (first cap : Array Value) (w : World), (Instr.makeFunc fn first cap).run Tryz.prog w = .ok (.func fn first cap) w := fun _ _ _ _ => rfl
  go_upto_region 3 with (go_at_call 110; (with_reducible refine HON.out.mono ?_); rintro e w2 ⟨rfl, hb2, L, X, hx7, hL, hX⟩; have HB2 := Lib.hid hb2; have HX7 := Lib.hid hx7; have HXL := Lib.hid hL; have HXX := Lib.hid hX; clear hb2 hx7 hL hX)
  clear HON hmf
  obtain ⟨X7, hX7⟩ : ∃ X, W.heap.size = X := ⟨_, rfl⟩
  rw [hX7] at HX7 ⊢
  clear hX7
  have HX4' := Lib.hid (HB2.out.heap HX4.out)
  have HX5' := Lib.hid (HB2.out.heap HX5.out)
  refine region_flow 10 [[], [0], [], [1, 2], [3], [], [5], [], [7], [4, 6, 8]] [.is (.pointer (some ⟨X7, 3, none⟩)), .is (.slice (some ⟨L, 0, none⟩) 3 3), .is (.int .i64 1), .is (.pointer (some ⟨L, 1, none⟩)), .is (.func (.func 181) #[] #[.pointer (some ⟨X, 0, none⟩)]), .is (.agg #[.bool s1, .slice p1 k1 c1, .slice p2 k2 c2]), .has (fun v w => RC w v x), .is (.agg #[.bool s2, .slice p3 k3 c3, .slice p4 k4 c4]), .has (fun v w => RC w v y), .has (fun v w => RC w v R)] (by kernel_rfl) (by kernel_rfl) rfl (by simp only [Steady]; exact ⟨fun _ _ _ h hb => h.bel hb, fun _ _ _ h hb => h.bel hb, fun _ _ _ h hb => h.bel hb, trivial⟩) ?_
  simp only [List.take_succ_cons, List.take_zero, List.drop_succ_cons, List.drop_zero]
  refine fV (by rfl) (by intro w1 hw1 hk1; go_simp) ?_
  simp only [Act.put, sA, sB, sC]
  refine fV (by rfl) (by intro w1 hw1 hk1; have c3 : w1.cell? ⟨X7, 3, none⟩ = some (.slice (some ⟨L, 0, none⟩) 3 3) := (heap_cell (hw1.heap HX7.out) 3).trans rfl; go_simp) ?_
  simp only [Act.put, sA, sB, sC]
  refine fV (by rfl) (by intro w1 hw1 hk1; go_simp) ?_
  simp only [Act.put, sA, sB, sC]
  refine fV (by rfl) (by intro w1 hw1 hk1; go_simp) ?_
  simp only [Act.put, sA, sB, sC]
  refine fV (by rfl) (by intro w1 hw1 hk1; have c1 : w1.cell? ⟨L, 1, none⟩ = some (.func (.func 181) #[] #[.pointer (some ⟨X, 0, none⟩)]) := (heap_cell (hw1.heap HXL.out) 1).trans rfl; go_simp) ?_
  simp only [Act.put, sA, sB, sC]
  refine fV (by rfl) (by intro w1 hw1 hk1; obtain ⟨c0, c1, c2⟩ := boxc3 (hw1.heap HX4'.out); go_simp) ?_
  simp only [Act.put, sA, sB, sC]
  refine fH (by rfl) (by intro w1 hw1 hk1; exact HGA.out _ (HBW.out.trans (HB2.out.trans hw1))) (by intro; go_simp) (fun v6 => ?_)
  simp only [Act.put, sA, sB, sC]
  refine fV (by rfl) (by intro w1 hw1 hk1; obtain ⟨c0, c1, c2⟩ := boxc3 (hw1.heap HX5'.out); go_simp) ?_
  simp only [Act.put, sA, sB, sC]
  refine fH (by rfl) (by intro w1 hw1 hk1; exact HGB.out _ (HBW.out.trans (HB2.out.trans hw1))) (by intro; go_simp) (fun v8 => ?_)
  simp only [Act.put, sA, sB, sC]
  refine fH (by rfl) (by intro w1 hw1 hk1; obtain ⟨g8, g6, -⟩ := hk1; exact HO.out _ _ _ g6 g8 X (hw1.heap HXX.out)) (by intro; go_simp) (fun v9 => ?_)
  simp only [Act.put, sA, sB, sC]
  intro w1 hw1 hk1
  obtain ⟨g9, g8, g6, -⟩ := hk1
  obtain ⟨p6, k6, c6, p7, k7, c7, rfl, -⟩ := g9.slice
  have HV := Lib.hid g9
  have HB3 := Lib.hid (HB2.out.trans hw1)
  have hhX6 := (HB3.out).heap HX6.out
  have HHX6 := Lib.hid hhX6
  have dX60 : w1.cell? ⟨X6, 0, none⟩ = some (.bool false) := (heap_cell hhX6 0).trans rfl
  have fX60 : w1.frozen? ⟨X6, 0, none⟩ = false := heap_frozen hhX6 0
  have dX61 : w1.cell? ⟨X6, 1, none⟩ = some (.slice none 0 0) := (heap_cell hhX6 1).trans rfl
  have fX61 : w1.frozen? ⟨X6, 1, none⟩ = false := heap_frozen hhX6 1
  have dX62 : w1.cell? ⟨X6, 2, none⟩ = some (.slice none 0 0) := (heap_cell hhX6 2).trans rfl
  have fX62 : w1.frozen? ⟨X6, 2, none⟩ = false := heap_frozen hhX6 2
  clear hhX6
  clear hw1 g9 g8 g6
  go_wp2
  obtain ⟨kb, kp, kh⟩ := finAll (vs := [.bool (decide (R.num < 0)), .slice p6 k6 c6, .slice p7 k7 c7]) (HBW.out.trans HB3.out) HHX6.out rfl HGEX6.out (Φ := fun W2 => RC W2 (.agg #[.bool (decide (R.num < 0)), .slice p6 k6 c6, .slice p7 k7 c7]) R) (fun W2 ho => HV.out.only ho HHX6.out (noInt_rat _ _ _ _ _ _ _))
  have kk0 : (setAll w1 X6 0 [.bool (decide (R.num < 0)), .slice p6 k6 c6, .slice p7 k7 c7]).cell? ⟨X6, 0, none⟩ = some (.bool (decide (R.num < 0))) := (heap_cell kh 0).trans rfl
  have kk1 : (setAll w1 X6 0 [.bool (decide (R.num < 0)), .slice p6 k6 c6, .slice p7 k7 c7]).cell? ⟨X6, 1, none⟩ = some (.slice p6 k6 c6) := (heap_cell kh 1).trans rfl
  have kk2 : (setAll w1 X6 0 [.bool (decide (R.num < 0)), .slice p6 k6 c6, .slice p7 k7 c7]).cell? ⟨X6, 2, none⟩ = some (.slice p7 k7 c7) := (heap_cell kh 2).trans rfl
  simp only [setAll] at kb kp kk0 kk1 kk2
  exact bodyPost_ret (v := .agg #[.bool (decide (R.num < 0)), .slice p6 k6 c6, .slice p7 k7 c7]) (by simp [results, Tryz.results98, go_sem, kk0, kk1, kk2]) rfl ⟨_, rfl, kb, kp⟩
set_option maxHeartbeats 1000000 in
set_option maxRecDepth 100000 in
theorem mk_rsub {w : World} {a b : Value} {x y : Rat} {i j : Nat} (ha : RS i w a x) (hb : RS j w b y) (hl : i + j < LimK) : Calls Tryz.prog 49 #[a, b] w (Makes w fun v w' => RC w' v (x - y)) := by
  have HD := Lib.hid (fun X (hX : Bel w X) => mk_do1 (ha.bel hX) (hb.bel hX) hl)
  obtain ⟨R, hR⟩ : ∃ R, x - y = R := ⟨_, rfl⟩
  rw [hR] at HD ⊢
  obtain ⟨s1, p1, k1, c1, p2, k2, c2, m1, m2, rfl, -⟩ := ha.1.slice
  obtain ⟨s2, p3, k3, c3, p4, k4, c4, m3, m4, rfl, -⟩ := hb.1.slice
  clear ha hb hl hR
  go_enter Tryz.func49, Tryz.ntmps49
  go_upto_region 1 with fail
  obtain ⟨hX2, hX3, hX4, hbw⟩ := boxes3 w (.cells #[.bool s1, .slice p1 k1 c1, .slice p2 k2 c2] 26) (.cells #[.bool s2, .slice p3 k3 c3, .slice p4 k4 c4] 26) (.cells #[.bool false, .slice none 0 0, .slice none 0 0] 26)
  obtain ⟨W, hW⟩ : ∃ W, ((w.alloc (.cells #[.bool s1, .slice p1 k1 c1, .slice p2 k2 c2] 26)).alloc (.cells #[.bool s2, .slice p3 k3 c3, .slice p4 k4 c4] 26)).alloc (.cells #[.bool false, .slice none 0 0, .slice none 0 0] 26) = W := ⟨_, rfl⟩
  rw [hW] at hX2 hX3 hX4 hbw ⊢
  obtain ⟨X2, eX2⟩ : ∃ X, w.heap.size = X := ⟨_, rfl⟩
  obtain ⟨X3, eX3⟩ : ∃ X, X2 + 1 = X := ⟨_, rfl⟩
  obtain ⟨X4, eX4⟩ : ∃ X, X3 + 1 = X := ⟨_, rfl⟩
  rw [eX2, eX3, eX4]
  rw [eX2] at hX2 hX3 hX4
  rw [eX3] at hX3 hX4
  rw [eX4] at hX4
  have HX2 := Lib.hid hX2
  have HX3 := Lib.hid hX3
  have HX4 := Lib.hid hX4
  have HBW := Lib.hid hbw
  have HGEX2 : Hid (w.heap.size ≤ X2) := by unfold Hid; omega
  have HGEX3 : Hid (w.heap.size ≤ X3) := by unfold Hid; omega
  have HGEX4 : Hid (w.heap.size ≤ X4) := by unfold Hid; omega
  have HLT : Hid (X2 < X3 ∧ X3 < X4) := by unfold Hid; omega
  clear hW hbw hX2 hX3 hX4 eX2 eX3 eX4
  have a0 : W.cell? ⟨X2, 0, none⟩ = some (.bool s1) := (heap_cell HX2.out 0).trans rfl
  have a1 : W.cell? ⟨X2, 1, none⟩ = some (.slice p1 k1 c1) := (heap_cell HX2.out 1).trans rfl
  have a2 : W.cell? ⟨X2, 2, none⟩ = some (.slice p2 k2 c2) := (heap_cell HX2.out 2).trans rfl
  have b0 : W.cell? ⟨X3, 0, none⟩ = some (.bool s2) := (heap_cell HX3.out 0).trans rfl
  have b1 : W.cell? ⟨X3, 1, none⟩ = some (.slice p3 k3 c3) := (heap_cell HX3.out 1).trans rfl
  have b2 : W.cell? ⟨X3, 2, none⟩ = some (.slice p4 k4 c4) := (heap_cell HX3.out 2).trans rfl
  go_wp2_with (go_at_call 98; (with_reducible refine (HD.out _ HBW.out).mono ?_); rintro e w1 ⟨v1, rfl, hb1, hv1⟩; obtain ⟨p6, k6, c6, p7, k7, c7, rfl, -⟩ := hv1.slice; have HB3 := Lib.hid hb1; have HV := Lib.hid hv1; clear hv1; have hhX4 := (hb1).heap HX4.out; have HHX4 := Lib.hid hhX4; have dX40 : w1.cell? ⟨X4, 0, none⟩ = some (.bool false) := (heap_cell hhX4 0).trans rfl; have fX40 : w1.frozen? ⟨X4, 0, none⟩ = false := heap_frozen hhX4 0; have dX41 : w1.cell? ⟨X4, 1, none⟩ = some (.slice none 0 0) := (heap_cell hhX4 1).trans rfl; have fX41 : w1.frozen? ⟨X4, 1, none⟩ = false := heap_frozen hhX4 1; have dX42 : w1.cell? ⟨X4, 2, none⟩ = some (.slice none 0 0) := (heap_cell hhX4 2).trans rfl; have fX42 : w1.frozen? ⟨X4, 2, none⟩ = false := heap_frozen hhX4 2; clear hhX4; clear hb1)
  obtain ⟨kb, kp, kh⟩ := finAll (vs := [.bool (decide (R.num < 0)), .slice p6 k6 c6, .slice p7 k7 c7]) (HBW.out.trans HB3.out) HHX4.out rfl HGEX4.out (Φ := fun W2 => RC W2 (.agg #[.bool (decide (R.num < 0)), .slice p6 k6 c6, .slice p7 k7 c7]) R) (fun W2 ho => HV.out.only ho HHX4.out (noInt_rat _ _ _ _ _ _ _))
  have kk0 : (setAll w1 X4 0 [.bool (decide (R.num < 0)), .slice p6 k6 c6, .slice p7 k7 c7]).cell? ⟨X4, 0, none⟩ = some (.bool (decide (R.num < 0))) := (heap_cell kh 0).trans rfl
  have kk1 : (setAll w1 X4 0 [.bool (decide (R.num < 0)), .slice p6 k6 c6, .slice p7 k7 c7]).cell? ⟨X4, 1, none⟩ = some (.slice p6 k6 c6) := (heap_cell kh 1).trans rfl
  have kk2 : (setAll w1 X4 0 [.bool (decide (R.num < 0)), .slice p6 k6 c6, .slice p7 k7 c7]).cell? ⟨X4, 2, none⟩ = some (.slice p7 k7 c7) := (heap_cell kh 2).trans rfl
  simp only [setAll] at kb kp kk0 kk1 kk2
  exact bodyPost_ret (v := .agg #[.bool (decide (R.num < 0)), .slice p6 k6 c6, .slice p7 k7 c7]) (by simp [results, Tryz.results49, go_sem, kk0, kk1, kk2]) rfl ⟨_, rfl, kb, kp⟩
set_option maxHeartbeats 4000000 in
set_option maxRecDepth 100000 in
theorem mk_do2 {w : World} {a b : Value} {x y : Rat} {i j : Nat} (ha : RS i w a x) (hb : RS j w b y) (hl : i + j < LimK) : Calls Tryz.prog 98 #[.int .i64 2, a, b] w (Makes w fun v w' => RC w' v (x * y)) := by
  have hx := ha.2
  have hy := hb.2
  have HGA := Lib.hid (fun X (hX : Bel w X) => mk_rgood (ha.1.bel hX))
  have HGB := Lib.hid (fun X (hX : Bel w X) => mk_rgood (hb.1.bel hX))
  have HO : Hid (∀ X u v, RC X u x → RC X v y → _) := fun X u v hu hv => mk_mul1 (w := X) hu hv hx hy hl
  obtain ⟨R, hR⟩ : ∃ R, x * y = R := ⟨_, rfl⟩
  rw [hR] at HO ⊢
  obtain ⟨s1, p1, k1, c1, p2, k2, c2, m1, m2, rfl, -⟩ := ha.1.slice
  obtain ⟨s2, p3, k3, c3, p4, k4, c4, m3, m4, rfl, -⟩ := hb.1.slice
  clear ha hb hx hy hl hR
  go_enter Tryz.func98, Tryz.ntmps98
  go_upto_region 1 with fail
  obtain ⟨hX4, hX5, hX6, hbw⟩ := boxes3 w (.cells #[.bool s1, .slice p1 k1 c1, .slice p2 k2 c2] 26) (.cells #[.bool s2, .slice p3 k3 c3, .slice p4 k4 c4] 26) (.cells #[.bool false, .slice none 0 0, .slice none 0 0] 26)
  obtain ⟨W, hW⟩ : ∃ W, ((w.alloc (.cells #[.bool s1, .slice p1 k1 c1, .slice p2 k2 c2] 26)).alloc (.cells #[.bool s2, .slice p3 k3 c3, .slice p4 k4 c4] 26)).alloc (.cells #[.bool false, .slice none 0 0, .slice none 0 0] 26) = W := ⟨_, rfl⟩
  rw [hW] at hX4 hX5 hX6 hbw ⊢
  obtain ⟨X4, eX4⟩ : ∃ X, w.heap.size = X := ⟨_, rfl⟩
  obtain ⟨X5, eX5⟩ : ∃ X, X4 + 1 = X := ⟨_, rfl⟩
  obtain ⟨X6, eX6⟩ : ∃ X, X5 + 1 = X := ⟨_, rfl⟩
  rw [eX4, eX5, eX6]
  rw [eX4] at hX4 hX5 hX6
  rw [eX5] at hX5 hX6
  rw [eX6] at hX6
  have HX4 := Lib.hid hX4
  have HX5 := Lib.hid hX5
  have HX6 := Lib.hid hX6
  have HBW := Lib.hid hbw
  have HGEX4 : Hid (w.heap.size ≤ X4) := by unfold Hid; omega
  have HGEX5 : Hid (w.heap.size ≤ X5) := by unfold Hid; omega
  have HGEX6 : Hid (w.heap.size ≤ X6) := by unfold Hid; omega
  have HLT : Hid (X4 < X5 ∧ X5 < X6) := by unfold Hid; omega
  clear hW hbw hX4 hX5 hX6 eX4 eX5 eX6
  have HON := Lib.hid (opsOnce_any W)
  have hmf : ∀ (fn : Fn) (first cap : Array Value) (w : World), (Instr.makeFunc fn first cap).run Tryz.prog w = .ok (.func fn first cap) w := fun _ _ _ _ => rfl
  go_upto_region 3 with (go_at_call 110; (with_reducible refine HON.out.mono ?_); rintro e w2 ⟨rfl, hb2, L, X, hx7, hL, hX⟩; have HB2 := Lib.hid hb2; have HX7 := Lib.hid hx7; have HXL := Lib.hid hL; have HXX := Lib.hid hX; clear hb2 hx7 hL hX)
  clear HON hmf
  obtain ⟨X7, hX7⟩ : ∃ X, W.heap.size = X := ⟨_, rfl⟩
  rw [hX7] at HX7 ⊢
  clear hX7
  have HX4' := Lib.hid (HB2.out.heap HX4.out)
  have HX5' := Lib.hid (HB2.out.heap HX5.out)
  refine region_flow 10 [[], [0], [], [1, 2], [3], [], [5], [], [7], [4, 6, 8]] [.is (.pointer (some ⟨X7, 3, none⟩)), .is (.slice (some ⟨L, 0, none⟩) 3 3), .is (.int .i64 2), .is (.pointer (some ⟨L, 2, none⟩)), .is (.func (.func 182) #[] #[]), .is (.agg #[.bool s1, .slice p1 k1 c1, .slice p2 k2 c2]), .has (fun v w => RC w v x), .is (.agg #[.bool s2, .slice p3 k3 c3, .slice p4 k4 c4]), .has (fun v w => RC w v y), .has (fun v w => RC w v R)] (by kernel_rfl) (by kernel_rfl) rfl (by simp only [Steady]; exact ⟨fun _ _ _ h hb => h.bel hb, fun _ _ _ h hb => h.bel hb, fun _ _ _ h hb => h.bel hb, trivial⟩) ?_
  simp only [List.take_succ_cons, List.take_zero, List.drop_succ_cons, List.drop_zero]
  refine fV (by rfl) (by intro w1 hw1 hk1; go_simp) ?_
  simp only [Act.put, sA, sB, sC]
  refine fV (by rfl) (by intro w1 hw1 hk1; have c3 : w1.cell? ⟨X7, 3, none⟩ = some (.slice (some ⟨L, 0, none⟩) 3 3) := (heap_cell (hw1.heap HX7.out) 3).trans rfl; go_simp) ?_
  simp only [Act.put, sA, sB, sC]
  refine fV (by rfl) (by intro w1 hw1 hk1; go_simp) ?_
  simp only [Act.put, sA, sB, sC]
  refine fV (by rfl) (by intro w1 hw1 hk1; go_simp) ?_
  simp only [Act.put, sA, sB, sC]
  refine fV (by rfl) (by intro w1 hw1 hk1; have c2 : w1.cell? ⟨L, 2, none⟩ = some (.func (.func 182) #[] #[]) := (heap_cell (hw1.heap HXL.out) 2).trans rfl; go_simp) ?_
  simp only [Act.put, sA, sB, sC]
  refine fV (by rfl) (by intro w1 hw1 hk1; obtain ⟨c0, c1, c2⟩ := boxc3 (hw1.heap HX4'.out); go_simp) ?_
  simp only [Act.put, sA, sB, sC]
  refine fH (by rfl) (by intro w1 hw1 hk1; exact HGA.out _ (HBW.out.trans (HB2.out.trans hw1))) (by intro; go_simp) (fun v6 => ?_)
  simp only [Act.put, sA, sB, sC]
  refine fV (by rfl) (by intro w1 hw1 hk1; obtain ⟨c0, c1, c2⟩ := boxc3 (hw1.heap HX5'.out); go_simp) ?_
  simp only [Act.put, sA, sB, sC]
  refine fH (by rfl) (by intro w1 hw1 hk1; exact HGB.out _ (HBW.out.trans (HB2.out.trans hw1))) (by intro; go_simp) (fun v8 => ?_)
  simp only [Act.put, sA, sB, sC]
  refine fH (by rfl) (by intro w1 hw1 hk1; obtain ⟨g8, g6, -⟩ := hk1; exact HO.out _ _ _ g6 g8) (by intro; go_simp) (fun v9 => ?_)
  simp only [Act.put, sA, sB, sC]
  intro w1 hw1 hk1
  obtain ⟨g9, g8, g6, -⟩ := hk1
  obtain ⟨p6, k6, c6, p7, k7, c7, rfl, -⟩ := g9.slice
  have HV := Lib.hid g9
  have HB3 := Lib.hid (HB2.out.trans hw1)
  have hhX6 := (HB3.out).heap HX6.out
  have HHX6 := Lib.hid hhX6
  have dX60 : w1.cell? ⟨X6, 0, none⟩ = some (.bool false) := (heap_cell hhX6 0).trans rfl
  have fX60 : w1.frozen? ⟨X6, 0, none⟩ = false := heap_frozen hhX6 0
  have dX61 : w1.cell? ⟨X6, 1, none⟩ = some (.slice none 0 0) := (heap_cell hhX6 1).trans rfl
  have fX61 : w1.frozen? ⟨X6, 1, none⟩ = false := heap_frozen hhX6 1
  have dX62 : w1.cell? ⟨X6, 2, none⟩ = some (.slice none 0 0) := (heap_cell hhX6 2).trans rfl
  have fX62 : w1.frozen? ⟨X6, 2, none⟩ = false := heap_frozen hhX6 2
  clear hhX6
  clear hw1 g9 g8 g6
  go_wp2
  obtain ⟨kb, kp, kh⟩ := finAll (vs := [.bool (decide (R.num < 0)), .slice p6 k6 c6, .slice p7 k7 c7]) (HBW.out.trans HB3.out) HHX6.out rfl HGEX6.out (Φ := fun W2 => RC W2 (.agg #[.bool (decide (R.num < 0)), .slice p6 k6 c6, .slice p7 k7 c7]) R) (fun W2 ho => HV.out.only ho HHX6.out (noInt_rat _ _ _ _ _ _ _))
  have kk0 : (setAll w1 X6 0 [.bool (decide (R.num < 0)), .slice p6 k6 c6, .slice p7 k7 c7]).cell? ⟨X6, 0, none⟩ = some (.bool (decide (R.num < 0))) := (heap_cell kh 0).trans rfl
  have kk1 : (setAll w1 X6 0 [.bool (decide (R.num < 0)), .slice p6 k6 c6, .slice p7 k7 c7]).cell? ⟨X6, 1, none⟩ = some (.slice p6 k6 c6) := (heap_cell kh 1).trans rfl
  have kk2 : (setAll w1 X6 0 [.bool (decide (R.num < 0)), .slice p6 k6 c6, .slice p7 k7 c7]).cell? ⟨X6, 2, none⟩ = some (.slice p7 k7 c7) := (heap_cell kh 2).trans rfl
  simp only [setAll] at kb kp kk0 kk1 kk2
  exact bodyPost_ret (v := .agg #[.bool (decide (R.num < 0)), .slice p6 k6 c6, .slice p7 k7 c7]) (by simp [results, Tryz.results98, go_sem, kk0, kk1, kk2]) rfl ⟨_, rfl, kb, kp⟩
set_option maxHeartbeats 1000000 in
set_option maxRecDepth 100000 in
theorem mk_rmul {w : World} {a b : Value} {x y : Rat} {i j : Nat} (ha : RS i w a x) (hb : RS j w b y) (hl : i + j < LimK) : Calls Tryz.prog 48 #[a, b] w (Makes w fun v w' => RC w' v (x * y)) := by
  have HD := Lib.hid (fun X (hX : Bel w X) => mk_do2 (ha.bel hX) (hb.bel hX) hl)
  obtain ⟨R, hR⟩ : ∃ R, x * y = R := ⟨_, rfl⟩
  rw [hR] at HD ⊢
  obtain ⟨s1, p1, k1, c1, p2, k2, c2, m1, m2, rfl, -⟩ := ha.1.slice
  obtain ⟨s2, p3, k3, c3, p4, k4, c4, m3, m4, rfl, -⟩ := hb.1.slice
  clear ha hb hl hR
  go_enter Tryz.func48, Tryz.ntmps48
  go_upto_region 1 with fail
  obtain ⟨hX2, hX3, hX4, hbw⟩ := boxes3 w (.cells #[.bool s1, .slice p1 k1 c1, .slice p2 k2 c2] 26) (.cells #[.bool s2, .slice p3 k3 c3, .slice p4 k4 c4] 26) (.cells #[.bool false, .slice none 0 0, .slice none 0 0] 26)
  obtain ⟨W, hW⟩ : ∃ W, ((w.alloc (.cells #[.bool s1, .slice p1 k1 c1, .slice p2 k2 c2] 26)).alloc (.cells #[.bool s2, .slice p3 k3 c3, .slice p4 k4 c4] 26)).alloc (.cells #[.bool false, .slice none 0 0, .slice none 0 0] 26) = W := ⟨_, rfl⟩
  rw [hW] at hX2 hX3 hX4 hbw ⊢
  obtain ⟨X2, eX2⟩ : ∃ X, w.heap.size = X := ⟨_, rfl⟩
  obtain ⟨X3, eX3⟩ : ∃ X, X2 + 1 = X := ⟨_, rfl⟩
  obtain ⟨X4, eX4⟩ : ∃ X, X3 + 1 = X := ⟨_, rfl⟩
  rw [eX2, eX3, eX4]
  rw [eX2] at hX2 hX3 hX4
  rw [eX3] at hX3 hX4
  rw [eX4] at hX4
  have HX2 := Lib.hid hX2
  have HX3 := Lib.hid hX3
  have HX4 := Lib.hid hX4
  have HBW := Lib.hid hbw
  have HGEX2 : Hid (w.heap.size ≤ X2) := by unfold Hid; omega
  have HGEX3 : Hid (w.heap.size ≤ X3) := by unfold Hid; omega
  have HGEX4 : Hid (w.heap.size ≤ X4) := by unfold Hid; omega
  have HLT : Hid (X2 < X3 ∧ X3 < X4) := by unfold Hid; omega
  clear hW hbw hX2 hX3 hX4 eX2 eX3 eX4
  have a0 : W.cell? ⟨X2, 0, none⟩ = some (.bool s1) := (heap_cell HX2.out 0).trans rfl
  have a1 : W.cell? ⟨X2, 1, none⟩ = some (.slice p1 k1 c1) := (heap_cell HX2.out 1).trans rfl
  have a2 : W.cell? ⟨X2, 2, none⟩ = some (.slice p2 k2 c2) := (heap_cell HX2.out 2).trans rfl
  have b0 : W.cell? ⟨X3, 0, none⟩ = some (.bool s2) := (heap_cell HX3.out 0).trans rfl
  have b1 : W.cell? ⟨X3, 1, none⟩ = some (.slice p3 k3 c3) := (heap_cell HX3.out 1).trans rfl
  have b2 : W.cell? ⟨X3, 2, none⟩ = some (.slice p4 k4 c4) := (heap_cell HX3.out 2).trans rfl
  go_wp2_with (go_at_call 98; (with_reducible refine (HD.out _ HBW.out).mono ?_); rintro e w1 ⟨v1, rfl, hb1, hv1⟩; obtain ⟨p6, k6, c6, p7, k7, c7, rfl, -⟩ := hv1.slice; have HB3 := Lib.hid hb1; have HV := Lib.hid hv1; clear hv1; have hhX4 := (hb1).heap HX4.out; have HHX4 := Lib.hid hhX4; have dX40 : w1.cell? ⟨X4, 0, none⟩ = some (.bool false) := (heap_cell hhX4 0).trans rfl; have fX40 : w1.frozen? ⟨X4, 0, none⟩ = false := heap_frozen hhX4 0; have dX41 : w1.cell? ⟨X4, 1, none⟩ = some (.slice none 0 0) := (heap_cell hhX4 1).trans rfl; have fX41 : w1.frozen? ⟨X4, 1, none⟩ = false := heap_frozen hhX4 1; have dX42 : w1.cell? ⟨X4, 2, none⟩ = some (.slice none 0 0) := (heap_cell hhX4 2).trans rfl; have fX42 : w1.frozen? ⟨X4, 2, none⟩ = false := heap_frozen hhX4 2; clear hhX4; clear hb1)
  obtain ⟨kb, kp, kh⟩ := finAll (vs := [.bool (decide (R.num < 0)), .slice p6 k6 c6, .slice p7 k7 c7]) (HBW.out.trans HB3.out) HHX4.out rfl HGEX4.out (Φ := fun W2 => RC W2 (.agg #[.bool (decide (R.num < 0)), .slice p6 k6 c6, .slice p7 k7 c7]) R) (fun W2 ho => HV.out.only ho HHX4.out (noInt_rat _ _ _ _ _ _ _))
  have kk0 : (setAll w1 X4 0 [.bool (decide (R.num < 0)), .slice p6 k6 c6, .slice p7 k7 c7]).cell? ⟨X4, 0, none⟩ = some (.bool (decide (R.num < 0))) := (heap_cell kh 0).trans rfl
  have kk1 : (setAll w1 X4 0 [.bool (decide (R.num < 0)), .slice p6 k6 c6, .slice p7 k7 c7]).cell? ⟨X4, 1, none⟩ = some (.slice p6 k6 c6) := (heap_cell kh 1).trans rfl
  have kk2 : (setAll w1 X4 0 [.bool (decide (R.num < 0)), .slice p6 k6 c6, .slice p7 k7 c7]).cell? ⟨X4, 2, none⟩ = some (.slice p7 k7 c7) := (heap_cell kh 2).trans rfl
  simp only [setAll] at kb kp kk0 kk1 kk2
  exact bodyPost_ret (v := .agg #[.bool (decide (R.num < 0)), .slice p6 k6 c6, .slice p7 k7 c7]) (by simp [results, Tryz.results48, go_sem, kk0, kk1, kk2]) rfl ⟨_, rfl, kb, kp⟩
end Go.Proofs.YtafmfnpjhhaikaaGreatDoor
