/-
  rat.Div by 0; pt.ToSeg (printed by gen_ptd.py).
-/
import Derived.Test.YtafmfnpjhhaikaaGreatDoorZaq
namespace Go.Proofs.YtafmfnpjhhaikaaGreatDoor
open Go.RowKit Go.Shelf

theorem rstore_any {w w1 W : World} {X2 : Nat} {a0 a1 a2 : Value} {s : Bool} {p p' : Option Addr} {k c k' c' : Nat} (h2 : w1.heap[X2]? = some (.cells #[a0, a1, a2] 26 (0, 0))) (hb : Bel w w1) (g2 : w.heap.size ≤ X2)
    (hW : W = ((w1.setCell ⟨X2, 0, none⟩ (.bool s)).setCell ⟨X2, 1, none⟩ (.slice p k c)).setCell ⟨X2, 2, none⟩ (.slice p' k' c')) :
    W.heap[X2]? = some (.cells #[.bool s, .slice p k c, .slice p' k' c'] 26 (0, 0)) ∧ Bel w W ∧ ∀ r, r ≠ X2 → W.heap[r]? = w1.heap[r]? := by
  obtain ⟨s1, o1, r1⟩ := setAll_box h2 [.bool s, .slice p k c, .slice p' k' c'] rfl hb g2
  have e : W = setAll w1 X2 0 [.bool s, .slice p k c, .slice p' k' c'] := hW
  rw [e]
  exact ⟨s1, r1, o1.2⟩
/-- How far along the segment the foot of a point lies. -/
def tSeg (px py ax ay bx cy : Rat) : Rat := ((px - ax) * (bx - ax) + (py - ay) * (cy - ay)) / ((bx - ax) * (bx - ax) + (cy - ay) * (cy - ay))
/-- The square of how far a point is from a segment. -/
def segR (px py ax ay bx cy : Rat) : Rat :=
  if cmpR (tSeg px py ax ay bx cy) 0 < 0 then farR px py ax ay else if 0 < cmpR (tSeg px py ax ay bx cy) 1 then farR px py bx cy else
    farR px py (ax + (bx - ax) * tSeg px py ax ay bx cy) (ay + (cy - ay) * tSeg px py ax ay bx cy)
theorem segR_zero {px py ax ay bx cy : Rat} (h : (bx - ax) * (bx - ax) + (cy - ay) * (cy - ay) = 0) : segR px py ax ay bx cy = farR px py ax ay := by
  have h1 : tSeg px py ax ay bx cy = 0 := by unfold tSeg; rw [h, Rat.div_def, Rat.inv_zero, Rat.mul_zero]
  unfold segR
  rw [h1, Rat.mul_zero, Rat.mul_zero, Rat.add_zero, Rat.add_zero]
  split
  · rfl
  · split
    · rename_i h2
      exact absurd h2 (by decide)
    · rfl
set_option maxHeartbeats 4000000 in
set_option maxRecDepth 100000 in
theorem mk_rdiv0 {w : World} {a b : Value} {x y : Rat} {i j : Nat} (ha : RS i w a x) (hb : RS j w b y) (hl : i + j < LimK) (h0 : y = 0) : Calls Tryz.prog 87 #[a, b] w (Makes w fun v _ => v = .tuple #[ratZero, .int .i64 12]) := by
  unfold ratZero
  have hx := ha.2
  have hy := hb.2
  have fx := hx.fit (by omega)
  have fy := hy.fit (by omega)
  have HGA := Lib.hid (fun X (hX : Bel w X) => mk_rgood (ha.1.bel hX))
  have HGB := Lib.hid (fun X (hX : Bel w X) => mk_rgood (hb.1.bel hX))
  have e1 : (x.num * (y.den : Int)).natAbs < B64 ^ (i + j) := natAbs_mul_lt hx.1 hy.2
  have e2 : (y.num * (x.den : Int)).natAbs < B64 ^ (i + j) := by rw [Nat.add_comm]; exact natAbs_mul_lt hy.1 hx.2
  have lk : i + j + 1 < 400000000 := by unfold LimK at hl; omega
  have HM1 : Hid (∀ X u v, ZC X u x.num → ZC X v (y.den : Int) → _) := fun X u v hu hv => mk_zmul (w := X) (hu.zi fx.1) (hv.zi (by rw [Int.natAbs_natCast]; exact fy.2)) (fit_of e1 (by omega))
  have HM2 : Hid (∀ X u v, ZC X u y.num → ZC X v (x.den : Int) → _) := fun X u v hu hv => mk_zmul (w := X) (hu.zi fy.1) (hv.zi (by rw [Int.natAbs_natCast]; exact fx.2)) (fit_of e2 (by omega))
  have hn0 : y.num * (x.den : Int) = 0 := by rw [h0]; simp
  have HC : Hid (∀ X u v, ZC X u (x.num * (y.den : Int)) → ZC X v (y.num * (x.den : Int)) → _) := fun X u v hu hv => mk_make0 (w := X) (hu.zi (fit_of e1 (by omega))) (by have := hv.zi (fit_of e2 (by omega)); rwa [hn0] at this)
  obtain ⟨Z1, hZ1⟩ : ∃ Z, x.num * (y.den : Int) = Z := ⟨_, rfl⟩
  obtain ⟨Z2, hZ2⟩ : ∃ Z, y.num * (x.den : Int) = Z := ⟨_, rfl⟩
  rw [hZ1] at HM1 HC
  rw [hZ2] at HM2 HC
  obtain ⟨s1, p1, k1, c1, p2, k2, c2, m1, m2, rfl, -⟩ := ha.1.slice
  obtain ⟨s2, p3, k3, c3, p4, k4, c4, m3, m4, rfl, -⟩ := hb.1.slice
  clear ha hb hx hy hl fx fy e1 e2 lk hZ1 hZ2 hn0 h0
  go_enter Tryz.func87, Tryz.ntmps87
  go_upto_region 1 with fail
  obtain ⟨hX2, hX3, hX4, hbw⟩ := boxes3 w (.cells #[.bool s1, .slice p1 k1 c1, .slice p2 k2 c2] 26) (.cells #[.bool s2, .slice p3 k3 c3, .slice p4 k4 c4] 26) (.cells #[.bool false, .slice none 0 0, .slice none 0 0] 26)
  obtain ⟨W, hW⟩ : ∃ W, ((w.alloc (.cells #[.bool s1, .slice p1 k1 c1, .slice p2 k2 c2] 26)).alloc (.cells #[.bool s2, .slice p3 k3 c3, .slice p4 k4 c4] 26)).alloc (.cells #[.bool false, .slice none 0 0, .slice none 0 0] 26) = W := ⟨_, rfl⟩
  rw [hW] at hX2 hX3 hX4 hbw ⊢
  obtain ⟨X2, eX2⟩ : ∃ X, w.heap.size = X := ⟨_, rfl⟩
  obtain ⟨X3, eX3⟩ : ∃ X, X2 + 1 = X := ⟨_, rfl⟩
  obtain ⟨X4, eX4⟩ : ∃ X, X3 + 1 = X := ⟨_, rfl⟩
  rw [eX2, eX3, eX4]
  rw [eX2] at hX2 hX3 hX4
  rw [eX3] at hX3 hX4
  rw [eX4] at hX4
  have HX2 := Lib.hid hX2
  have HX3 := Lib.hid hX3
  have HX4 := Lib.hid hX4
  have HBW := Lib.hid hbw
  have HGEX2 : Hid (w.heap.size ≤ X2) := by unfold Hid; omega
  have HGEX3 : Hid (w.heap.size ≤ X3) := by unfold Hid; omega
  have HGEX4 : Hid (w.heap.size ≤ X4) := by unfold Hid; omega
  have HLT : Hid (X2 < X3 ∧ X3 < X4) := by unfold Hid; omega
  clear hW hbw hX2 hX3 hX4 eX2 eX3 eX4
  refine region_flow 4 [[], [0], [], [2]] [.is (.agg #[.bool s1, .slice p1 k1 c1, .slice p2 k2 c2]), .has (fun v w => RC w v x), .is (.agg #[.bool s2, .slice p3 k3 c3, .slice p4 k4 c4]), .has (fun v w => RC w v y)] (by kernel_rfl) (by kernel_rfl) rfl (by simp only [Steady]; exact ⟨fun _ _ _ h hb => h.bel hb, fun _ _ _ h hb => h.bel hb, trivial⟩) ?_
  simp only [List.take_succ_cons, List.take_zero, List.drop_succ_cons, List.drop_zero]
  refine fV (by rfl) (by intro w1 hw1 hk1; obtain ⟨c0, c1, c2⟩ := boxc3 (hw1.heap HX2.out); go_simp) ?_
  simp only [Act.put, sA, sB, sC]
  refine fH (by rfl) (by intro w1 hw1 hk1; exact HGA.out _ (HBW.out.trans hw1)) (by intro; go_simp) (fun v1 => ?_)
  simp only [Act.put, sA, sB, sC]
  refine fV (by rfl) (by intro w1 hw1 hk1; obtain ⟨c0, c1, c2⟩ := boxc3 (hw1.heap HX3.out); go_simp) ?_
  simp only [Act.put, sA, sB, sC]
  refine fH (by rfl) (by intro w1 hw1 hk1; exact HGB.out _ (HBW.out.trans hw1)) (by intro; go_simp) (fun v3 => ?_)
  simp only [Act.put, sA, sB, sC]
  intro w1 hw1 hk1
  obtain ⟨g3, g1, -⟩ := hk1
  obtain ⟨q1, j1, d1, q2, j2, d2, rfl, -⟩ := g1.slice
  obtain ⟨q3, j3, d3, q4, j4, d4, rfl, -⟩ := g3.slice
  have hX23 : X2 ≠ X3 := by have := HLT.out; omega
  have y2 := hw1.heap HX2.out
  have y3 := hw1.heap HX3.out
  have a0 : w1.cell? ⟨X2, 0, none⟩ = some (.bool s1) := (heap_cell y2 0).trans rfl
  have a1 : w1.cell? ⟨X2, 1, none⟩ = some (.slice p1 k1 c1) := (heap_cell y2 1).trans rfl
  have a2 : w1.cell? ⟨X2, 2, none⟩ = some (.slice p2 k2 c2) := (heap_cell y2 2).trans rfl
  have a3 : w1.frozen? ⟨X2, 0, none⟩ = false := heap_frozen y2 0
  have a4 : w1.frozen? ⟨X2, 1, none⟩ = false := heap_frozen y2 1
  have a5 : w1.frozen? ⟨X2, 2, none⟩ = false := heap_frozen y2 2
  have b0 : w1.cell? ⟨X3, 0, none⟩ = some (.bool s2) := (heap_cell y3 0).trans rfl
  have b1 : w1.cell? ⟨X3, 1, none⟩ = some (.slice p3 k3 c3) := (heap_cell y3 1).trans rfl
  have b2 : w1.cell? ⟨X3, 2, none⟩ = some (.slice p4 k4 c4) := (heap_cell y3 2).trans rfl
  have b3 : w1.frozen? ⟨X3, 0, none⟩ = false := heap_frozen y3 0
  have b4 : w1.frozen? ⟨X3, 1, none⟩ = false := heap_frozen y3 1
  have b5 : w1.frozen? ⟨X3, 2, none⟩ = false := heap_frozen y3 2
  obtain ⟨sx, hsx⟩ : ∃ s, decide (x.num < 0) = s := ⟨_, rfl⟩
  obtain ⟨sy, hsy⟩ : ∃ s, decide (y.num < 0) = s := ⟨_, rfl⟩
  rw [hsx] at g1 ⊢
  rw [hsy] at g3 ⊢
  have HSX := Lib.hid hsx
  have HSY := Lib.hid hsy
  have ST := Lib.hid (fun W' hW' => rstore_two (s := sx) (t := sy) y2 y3 hX23 (noInt_rat _ _ _ _ _ _ _) (noInt_rat _ _ _ _ _ _ _) g1 g3 (HBW.out.trans hw1) HGEX2.out HGEX3.out (W := W') hW')
  have HW1 := Lib.hid hw1
  clear g1 g3 hw1 hsx hsy y2 y3 HX2 HX3 HGA HGB
  go_upto_region 2 with fail
  obtain ⟨W2, hW2⟩ : ∃ W', (((((w1.setCell ⟨X2, 0, none⟩ (.bool sx)).setCell ⟨X2, 1, none⟩ (.slice q1 j1 d1)).setCell ⟨X2, 2, none⟩ (.slice q2 j2 d2)).setCell ⟨X3, 0, none⟩ (.bool sy)).setCell ⟨X3, 1, none⟩ (.slice q3 j3 d3)).setCell ⟨X3, 2, none⟩ (.slice q4 j4 d4) = W' := ⟨_, rfl⟩
  rw [hW2]
  obtain ⟨h2, h3, hr2, hr3, hbw, hoth⟩ := ST.out W2 hW2.symm
  have HX2 := Lib.hid h2
  have HX3 := Lib.hid h3
  have HR2 := Lib.hid hr2
  have HR3 := Lib.hid hr3
  have HBW2 := Lib.hid hbw
  have HOTH := Lib.hid hoth
  clear a0 a1 a2 a3 a4 a5 b0 b1 b2 b3 b4 b5 h2 h3 hr2 hr3 hbw hoth hW2 ST hX23
  have HX4' := Lib.hid ((HOTH.out X4 (by have := HLT.out; omega) (by have := HLT.out; omega)).trans (HW1.out.heap HX4.out))
  clear HX4
  have HX4 := HX4'
  clear HX4'
  unfold ratZero at HC
  refine region_flow 13 [[], [0], [], [2], [1, 3], [], [5], [], [7], [6, 8], [4, 9], [10], [10]] [.is (.pointer (some ⟨X2, 0, none⟩)), .is (.agg #[.bool sx, .slice q1 j1 d1]), .is (.agg #[.bool sy, .slice q3 j3 d3, .slice q4 j4 d4]), .has (fun v w => ZC w v (y.den : Int)), .has (fun v w => ZC w v Z1), .is (.pointer (some ⟨X3, 0, none⟩)), .is (.agg #[.bool sy, .slice q3 j3 d3]), .is (.agg #[.bool sx, .slice q1 j1 d1, .slice q2 j2 d2]), .has (fun v w => ZC w v (x.den : Int)), .has (fun v w => ZC w v Z2), .is (.tuple #[.agg #[.bool false, .slice none 0 0, .slice none 0 0], .int .i64 12]), .is (.agg #[.bool false, .slice none 0 0, .slice none 0 0]), .is (.int .i64 12)] (by kernel_rfl) (by kernel_rfl) rfl (by simp only [Steady]; exact ⟨fun _ _ _ h hb => h.bel hb, fun _ _ _ h hb => h.bel hb, fun _ _ _ h hb => h.bel hb, fun _ _ _ h hb => h.bel hb, trivial⟩) ?_
  simp only [List.take_succ_cons, List.take_zero, List.drop_succ_cons, List.drop_zero]
  refine fV (by rfl) (by intro w1 hw1 hk1; go_simp) ?_
  simp only [Act.put, sA, sB, sC]
  refine fV (by rfl) (by intro w1 hw1 hk1; obtain ⟨c0, c1, -⟩ := boxc3 (hw1.heap HX2.out); go_simp) ?_
  simp only [Act.put, sA, sB, sC]
  refine fV (by rfl) (by intro w1 hw1 hk1; obtain ⟨c0, c1, c2⟩ := boxc3 (hw1.heap HX3.out); go_simp) ?_
  simp only [Act.put, sA, sB, sC]
  refine fH (by rfl) (by intro w1 hw1 hk1; exact mk_over (HR3.out.bel hw1)) (by intro; go_simp) (fun v3 => ?_)
  simp only [Act.put, sA, sB, sC]
  refine fH (by rfl) (by intro w1 hw1 hk1; obtain ⟨g3, -⟩ := hk1; exact HM1.out _ _ _ (num_of (HR2.out.bel hw1)) g3) (by intro; go_simp) (fun v4 => ?_)
  simp only [Act.put, sA, sB, sC]
  refine fV (by rfl) (by intro w1 hw1 hk1; go_simp) ?_
  simp only [Act.put, sA, sB, sC]
  refine fV (by rfl) (by intro w1 hw1 hk1; obtain ⟨c0, c1, -⟩ := boxc3 (hw1.heap HX3.out); go_simp) ?_
  simp only [Act.put, sA, sB, sC]
  refine fV (by rfl) (by intro w1 hw1 hk1; obtain ⟨c0, c1, c2⟩ := boxc3 (hw1.heap HX2.out); go_simp) ?_
  simp only [Act.put, sA, sB, sC]
  refine fH (by rfl) (by intro w1 hw1 hk1; exact mk_over (HR2.out.bel hw1)) (by intro; go_simp) (fun v8 => ?_)
  simp only [Act.put, sA, sB, sC]
  refine fH (by rfl) (by intro w1 hw1 hk1; obtain ⟨g8, -, -, -⟩ := hk1; exact HM2.out _ _ _ (num_of (HR3.out.bel hw1)) g8) (by intro; go_simp) (fun v9 => ?_)
  simp only [Act.put, sA, sB, sC]
  refine fC (by rfl) (by intro w1 hw1 hk1; obtain ⟨g9, -, g4, -, -⟩ := hk1; exact HC.out _ _ _ g4 g9) (by intro; go_simp) ?_
  simp only [Act.put, sA, sB, sC]
  refine fV (by rfl) (by intro w1 hw1 hk1; go_simp) ?_
  simp only [Act.put, sA, sB, sC]
  refine fV (by rfl) (by intro w1 hw1 hk1; go_simp) ?_
  simp only [Act.put, sA, sB, sC]
  intro w1 hw1 hk1
  obtain ⟨g9, g8, g4, g3, -⟩ := hk1
  have HB3 := Lib.hid hw1
  have hhX4 := (hw1).heap HX4.out
  have HHX4 := Lib.hid hhX4
  have dX40 : w1.cell? ⟨X4, 0, none⟩ = some (.bool false) := (heap_cell hhX4 0).trans rfl
  have fX40 : w1.frozen? ⟨X4, 0, none⟩ = false := heap_frozen hhX4 0
  have dX41 : w1.cell? ⟨X4, 1, none⟩ = some (.slice none 0 0) := (heap_cell hhX4 1).trans rfl
  have fX41 : w1.frozen? ⟨X4, 1, none⟩ = false := heap_frozen hhX4 1
  have dX42 : w1.cell? ⟨X4, 2, none⟩ = some (.slice none 0 0) := (heap_cell hhX4 2).trans rfl
  have fX42 : w1.frozen? ⟨X4, 2, none⟩ = false := heap_frozen hhX4 2
  clear hhX4
  clear hw1 g9 g8 g4 g3
  go_wp2
  obtain ⟨kb, kp, kh⟩ := finAll (vs := [.bool false, .slice none 0 0, .slice none 0 0]) (HBW2.out.trans HB3.out) HHX4.out rfl HGEX4.out (Φ := fun W2 => True) (fun W2 ho => trivial)
  have kk0 : (setAll w1 X4 0 [.bool false, .slice none 0 0, .slice none 0 0]).cell? ⟨X4, 0, none⟩ = some (.bool false) := (heap_cell kh 0).trans rfl
  have kk1 : (setAll w1 X4 0 [.bool false, .slice none 0 0, .slice none 0 0]).cell? ⟨X4, 1, none⟩ = some (.slice none 0 0) := (heap_cell kh 1).trans rfl
  have kk2 : (setAll w1 X4 0 [.bool false, .slice none 0 0, .slice none 0 0]).cell? ⟨X4, 2, none⟩ = some (.slice none 0 0) := (heap_cell kh 2).trans rfl
  simp only [setAll] at kb kp kk0 kk1 kk2
  exact bodyPost_ret (v := .tuple #[.agg #[.bool false, .slice none 0 0, .slice none 0 0], .int .i64 12]) (by simp [results, Tryz.results87, go_sem, kk0, kk1, kk2]) rfl ⟨_, rfl, kb, rfl⟩
set_option maxHeartbeats 4000000 in
set_option maxRecDepth 100000 in
theorem mk_toSeg0 {w : World} {u a b : Value} {px py ax ay bx cy : Rat} {i : Nat} (hu : PS i w u px py) (ha : PS i w a ax ay) (hb : PS i w b bx cy) (hl : 80 * i + 60 < LimK) (h0 : (bx - ax) * (bx - ax) + (cy - ay) * (cy - ay) = 0) : Calls Tryz.prog 41 #[u, a, b] w (Makes w fun v w' => RC w' v (segR px py ax ay bx cy)) := by
  rw [segR_zero h0]
  obtain ⟨_, _, _, _, _, _, -, hx0, hy0⟩ := id hu
  obtain ⟨_, _, _, _, _, _, -, hx1, hy1⟩ := id ha
  obtain ⟨_, _, _, _, _, _, -, hx2, hy2⟩ := id hb
  have s1 := hx2.2.sub hx1.2
  have s2 := hy2.2.sub hy1.2
  have e1 := hx0.2.sub hx1.2
  have e2 := hy0.2.sub hy1.2
  have n1 := (e1.mul s1).add (e2.mul s2)
  have n2 := (s1.mul s1).add (s2.mul s2)
  have HSD := Lib.hid (fun X (hX : Bel w X) => mk_psub (hb.bel hX) (ha.bel hX) (by omega))
  have HSE := Lib.hid (fun X (hX : Bel w X) => mk_psub (hu.bel hX) (ha.bel hX) (by omega))
  have HDN : Hid (∀ X u v, PC X u (px - ax) (py - ay) → PC X v (bx - ax) (cy - ay) → _) := fun X u v hu hv => mk_dot (hu.ps e1 e2 (by omega)) (hv.ps s1 s2 (by omega)) (by omega)
  have HDD : Hid (∀ X v, PC X v (bx - ax) (cy - ay) → _) := fun X v hv => mk_dot (hv.ps s1 s2 (by omega)) (hv.ps s1 s2 (by omega)) (by omega)
  have HF1 := Lib.hid (fun X (hX : Bel w X) => mk_far (hu.bel hX) (ha.bel hX) (by omega))
  have HDV : Hid (∀ X u v, RC X u ((px - ax) * (bx - ax) + (py - ay) * (cy - ay)) → RC X v ((bx - ax) * (bx - ax) + (cy - ay) * (cy - ay)) → _) := fun X u v hu hv => mk_rdiv0 (hu.rs n1 (by omega)) (hv.rs n2 (by omega)) (by omega) h0
  clear h0
  unfold ratZero at HDV
  obtain ⟨R1, hR1⟩ : ∃ Z, farR px py ax ay = Z := ⟨_, rfl⟩
  rw [hR1] at HF1 ⊢
  obtain ⟨N, hN⟩ : ∃ Z, (px - ax) * (bx - ax) + (py - ay) * (cy - ay) = Z := ⟨_, rfl⟩
  obtain ⟨DD, hDD⟩ : ∃ Z, (bx - ax) * (bx - ax) + (cy - ay) * (cy - ay) = Z := ⟨_, rfl⟩
  rw [hN] at HDN HDV
  rw [hDD] at HDD HDV
  obtain ⟨D1, hD1⟩ : ∃ Z, bx - ax = Z := ⟨_, rfl⟩
  obtain ⟨D2, hD2⟩ : ∃ Z, cy - ay = Z := ⟨_, rfl⟩
  obtain ⟨E1, hE1⟩ : ∃ Z, px - ax = Z := ⟨_, rfl⟩
  obtain ⟨E2, hE2⟩ : ∃ Z, py - ay = Z := ⟨_, rfl⟩
  rw [hD1, hD2] at HSD HDN HDD
  rw [hE1, hE2] at HSE HDN
  clear hR1 hN hDD hD1 hD2 hE1 hE2 s1 s2 e1 e2 n1 n2 hx0 hx1 hx2 hy0 hy1 hy2 hl
  obtain ⟨su1, pu1, ku1, cu1, qu1, ju1, du1, su2, pu2, ku2, cu2, qu2, ju2, du2, rfl, hu1, hu2⟩ := hu.parts
  have HPu := Lib.hid hu
  have HPu1 := Lib.hid hu1
  have HPu2 := Lib.hid hu2
  clear hu hu1 hu2
  obtain ⟨sa1, pa1, ka1, ca1, qa1, ja1, da1, sa2, pa2, ka2, ca2, qa2, ja2, da2, rfl, ha1, ha2⟩ := ha.parts
  have HPa := Lib.hid ha
  have HPa1 := Lib.hid ha1
  have HPa2 := Lib.hid ha2
  clear ha ha1 ha2
  obtain ⟨sb1, pb1, kb1, cb1, qb1, jb1, db1, sb2, pb2, kb2, cb2, qb2, jb2, db2, rfl, hb1, hb2⟩ := hb.parts
  have HPb := Lib.hid hb
  have HPb1 := Lib.hid hb1
  have HPb2 := Lib.hid hb2
  clear hb hb1 hb2
  go_enter Tryz.func41, Tryz.ntmps41
  go_upto_region 1 with fail
  obtain ⟨hXu, hXa, hXb, hXR, hbw⟩ := boxes4 w (.cells #[.bool su1, .slice pu1 ku1 cu1, .slice qu1 ju1 du1, .bool su2, .slice pu2 ku2 cu2, .slice qu2 ju2 du2] 28) (.cells #[.bool sa1, .slice pa1 ka1 ca1, .slice qa1 ja1 da1, .bool sa2, .slice pa2 ka2 ca2, .slice qa2 ja2 da2] 28) (.cells #[.bool sb1, .slice pb1 kb1 cb1, .slice qb1 jb1 db1, .bool sb2, .slice pb2 kb2 cb2, .slice qb2 jb2 db2] 28) (.cells #[.bool false, .slice none 0 0, .slice none 0 0] 26)
  obtain ⟨W, hW⟩ : ∃ W, (((w.alloc (.cells #[.bool su1, .slice pu1 ku1 cu1, .slice qu1 ju1 du1, .bool su2, .slice pu2 ku2 cu2, .slice qu2 ju2 du2] 28)).alloc (.cells #[.bool sa1, .slice pa1 ka1 ca1, .slice qa1 ja1 da1, .bool sa2, .slice pa2 ka2 ca2, .slice qa2 ja2 da2] 28)).alloc (.cells #[.bool sb1, .slice pb1 kb1 cb1, .slice qb1 jb1 db1, .bool sb2, .slice pb2 kb2 cb2, .slice qb2 jb2 db2] 28)).alloc (.cells #[.bool false, .slice none 0 0, .slice none 0 0] 26) = W := ⟨_, rfl⟩
  rw [hW] at hXu hXa hXb hXR hbw ⊢
  obtain ⟨Xu, eXu⟩ : ∃ X, w.heap.size = X := ⟨_, rfl⟩
  obtain ⟨Xa, eXa⟩ : ∃ X, Xu + 1 = X := ⟨_, rfl⟩
  obtain ⟨Xb, eXb⟩ : ∃ X, Xa + 1 = X := ⟨_, rfl⟩
  obtain ⟨XR, eXR⟩ : ∃ X, Xb + 1 = X := ⟨_, rfl⟩
  rw [eXu, eXa, eXb, eXR]
  rw [eXu] at hXu hXa hXb hXR
  rw [eXa] at hXa hXb hXR
  rw [eXb] at hXb hXR
  rw [eXR] at hXR
  have HXu := Lib.hid hXu
  have HXa := Lib.hid hXa
  have HXb := Lib.hid hXb
  have HXR := Lib.hid hXR
  have HBW := Lib.hid hbw
  have HGEXu : Hid (w.heap.size ≤ Xu) := by unfold Hid; omega
  have HGEXa : Hid (w.heap.size ≤ Xa) := by unfold Hid; omega
  have HGEXb : Hid (w.heap.size ≤ Xb) := by unfold Hid; omega
  have HGEXR : Hid (w.heap.size ≤ XR) := by unfold Hid; omega
  have HLT : Hid (Xu < Xa ∧ Xa < Xb ∧ Xb < XR) := by unfold Hid; omega
  clear hW hbw hXu hXa hXb hXR eXu eXa eXb eXR
  refine line_region 3 [[], [], [0, 1]] [.is (.agg #[.bool sb1, .slice pb1 kb1 cb1, .slice qb1 jb1 db1, .bool sb2, .slice pb2 kb2 cb2, .slice qb2 jb2 db2]), .is (.agg #[.bool sa1, .slice pa1 ka1 ca1, .slice qa1 ja1 da1, .bool sa2, .slice pa2 ka2 ca2, .slice qa2 ja2 da2]), .has (fun v w => PC w v D1 D2)] rfl rfl (by decide) (by simp only [Steady]; exact ⟨fun _ _ _ h hb => h.bel hb, trivial⟩) ?_
  simp only [List.take_succ_cons, List.take_zero, List.drop_succ_cons, List.drop_zero]
  refine fV (by rfl) (by intro w1 hw1 hk1; obtain ⟨c0, c1, c2, c3, c4, c5⟩ := boxc6 (hw1.heap HXb.out); go_simp) ?_
  simp only [Act.put, sA, sB, sC]
  refine fV (by rfl) (by intro w1 hw1 hk1; obtain ⟨c0, c1, c2, c3, c4, c5⟩ := boxc6 (hw1.heap HXa.out); go_simp) ?_
  simp only [Act.put, sA, sB, sC]
  refine fH (by rfl) (by intro w1 hw1 hk1; exact HSD.out _ (HBW.out.trans hw1)) (by intro; go_simp) (fun v2 => ?_)
  simp only [Act.put, sA, sB, sC]
  intro w1 hw1 hk1
  obtain ⟨g2, -⟩ := hk1
  obtain ⟨pd1, kd1, cd1, qd1, jd1, dd1, pd2, kd2, cd2, qd2, jd2, dd2, rfl, -, -⟩ := g2.slice
  have HGd0 := Lib.hid g2
  have HB0 := Lib.hid hw1
  clear g2 hw1
  go_upto_region 2 with fail
  obtain ⟨r1, bb5⟩ := boxes1 w1 (.cells #[.bool (decide (D1.num < 0)), .slice pd1 kd1 cd1, .slice qd1 jd1 dd1, .bool (decide (D2.num < 0)), .slice pd2 kd2 cd2, .slice qd2 jd2 dd2] 28 (0, 0))
  obtain ⟨Xd, hXd⟩ : ∃ X, w1.heap.size = X := ⟨_, rfl⟩
  rw [hXd] at r1 ⊢
  obtain ⟨W6, hW6⟩ : ∃ W', w1.alloc (.cells #[.bool (decide (D1.num < 0)), .slice pd1 kd1 cd1, .slice qd1 jd1 dd1, .bool (decide (D2.num < 0)), .slice pd2 kd2 cd2, .slice qd2 jd2 dd2] 28 (0, 0)) = W' := ⟨_, rfl⟩
  rw [hW6] at r1 bb5 ⊢
  have HXd := Lib.hid r1
  have HGd := Lib.hid (HGd0.out.bel bb5)
  have HBW6 := Lib.hid (HBW.out.trans (HB0.out.trans bb5))
  have hkR := HB0.out.trans bb5 |>.heap HXR.out
  clear HXR
  have HXR := Lib.hid hkR
  clear hkR
  have hku := HB0.out.trans bb5 |>.heap HXu.out
  clear HXu
  have HXu := Lib.hid hku
  clear hku
  have hka := HB0.out.trans bb5 |>.heap HXa.out
  clear HXa
  have HXa := Lib.hid hka
  clear hka
  have hkb := HB0.out.trans bb5 |>.heap HXb.out
  clear HXb
  have HXb := Lib.hid hkb
  clear hkb
  clear r1 bb5 hXd hW6 HGd0 HB0
  refine region_flow_hole 13 11 _ [[], [], [0, 1], [], [2, 3], [], [], [5, 6], [4, 7], [8], [9], [9], []] [.is (.agg #[.bool su1, .slice pu1 ku1 cu1, .slice qu1 ju1 du1, .bool su2, .slice pu2 ku2 cu2, .slice qu2 ju2 du2]), .is (.agg #[.bool sa1, .slice pa1 ka1 ca1, .slice qa1 ja1 da1, .bool sa2, .slice pa2 ka2 ca2, .slice qa2 ja2 da2]), .has (fun v w => PC w v E1 E2), .is (.agg #[.bool (decide (D1.num < 0)), .slice pd1 kd1 cd1, .slice qd1 jd1 dd1, .bool (decide (D2.num < 0)), .slice pd2 kd2 cd2, .slice qd2 jd2 dd2]), .has (fun v w => RC w v N), .is (.agg #[.bool (decide (D1.num < 0)), .slice pd1 kd1 cd1, .slice qd1 jd1 dd1, .bool (decide (D2.num < 0)), .slice pd2 kd2 cd2, .slice qd2 jd2 dd2]), .is (.agg #[.bool (decide (D1.num < 0)), .slice pd1 kd1 cd1, .slice qd1 jd1 dd1, .bool (decide (D2.num < 0)), .slice pd2 kd2 cd2, .slice qd2 jd2 dd2]), .has (fun v w => RC w v DD), .is (.tuple #[.agg #[.bool false, .slice none 0 0, .slice none 0 0], .int .i64 12]), .is (.tuple #[.agg #[.bool false, .slice none 0 0, .slice none 0 0], .int .i64 12]), .is (.agg #[.bool false, .slice none 0 0, .slice none 0 0]), .is (.int .i64 12), .has (fun v w => ∃ X, v = .pointer (some ⟨X, 0, none⟩) ∧ W6.heap.size ≤ X ∧ w.heap[X]? = some (.cells #[.bool false, .slice none 0 0, .slice none 0 0] 26 (0, 0)))] (by kernel_rfl) (by kernel_rfl) rfl (by kernel_rfl) (fun _ _ _ _ h => h) (fun a w c h w' => extract_pure rfl a w c h w') ⟨_, rfl⟩ rfl (by simp only [Steady]; exact ⟨fun _ _ _ h hb => h.bel hb, fun _ _ _ h hb => h.bel hb, fun _ _ _ h hb => h.bel hb, fun _ _ _ h hb => by obtain ⟨X, h1, h2, h3⟩ := h; exact ⟨X, h1, h2, hb.heap h3⟩, trivial⟩) ?_
  simp only [List.take_succ_cons, List.take_zero, List.drop_succ_cons, List.drop_zero]
  refine fV (by rfl) (by intro w1 hw1 hk1; obtain ⟨c0, c1, c2, c3, c4, c5⟩ := boxc6 (hw1.heap HXu.out); go_simp) ?_
  simp only [Act.put, sA, sB, sC]
  refine fV (by rfl) (by intro w1 hw1 hk1; obtain ⟨c0, c1, c2, c3, c4, c5⟩ := boxc6 (hw1.heap HXa.out); go_simp) ?_
  simp only [Act.put, sA, sB, sC]
  refine fH (by rfl) (by intro w1 hw1 hk1; exact HSE.out _ (HBW6.out.trans hw1)) (by intro; go_simp) (fun v2 => ?_)
  simp only [Act.put, sA, sB, sC]
  refine fV (by rfl) (by intro w1 hw1 hk1; obtain ⟨c0, c1, c2, c3, c4, c5⟩ := boxc6 (hw1.heap HXd.out); go_simp) ?_
  simp only [Act.put, sA, sB, sC]
  refine fH (by rfl) (by intro w1 hw1 hk1; obtain ⟨g2, -⟩ := hk1; exact HDN.out _ _ _ g2 (HGd.out.bel hw1)) (by intro; go_simp) (fun v4 => ?_)
  simp only [Act.put, sA, sB, sC]
  refine fV (by rfl) (by intro w1 hw1 hk1; obtain ⟨c0, c1, c2, c3, c4, c5⟩ := boxc6 (hw1.heap HXd.out); go_simp) ?_
  simp only [Act.put, sA, sB, sC]
  refine fV (by rfl) (by intro w1 hw1 hk1; obtain ⟨c0, c1, c2, c3, c4, c5⟩ := boxc6 (hw1.heap HXd.out); go_simp) ?_
  simp only [Act.put, sA, sB, sC]
  refine fH (by rfl) (by intro w1 hw1 hk1; exact HDD.out _ _ (HGd.out.bel hw1)) (by intro; go_simp) (fun v7 => ?_)
  simp only [Act.put, sA, sB, sC]
  refine fC (by rfl) (by intro w1 hw1 hk1; obtain ⟨g7, g4, -, -⟩ := hk1; exact HDV.out _ _ _ g4 g7) (by intro; go_simp) ?_
  simp only [Act.put, sA, sB, sC]
  refine fV (by rfl) (by intro w1 hw1 hk1; go_simp) ?_
  simp only [Act.put, sA, sB, sC]
  refine fV (by rfl) (by intro w1 hw1 hk1; go_simp) ?_
  simp only [Act.put, sA, sB, sC]
  refine fV (by rfl) (by intro w1 hw1 hk1; go_simp) ?_
  simp only [Act.put, sA, sB, sC]
  refine flow_has (by intro w1 hw1 hk1; refine want (by rfl) (gives_new (c := .pointer (some ⟨w1.heap.size, 0, none⟩)) (w' := w1.alloc (.cells #[.bool false, .slice none 0 0, .slice none 0 0] 26 (0, 0))) (by go_simp) ((Bel.refl w1).alloc _) ?_); exact ⟨_, rfl, hw1.size, (boxes1 _ _).1⟩) (fun v12 => ?_)
  simp only [Act.put, sA, sB, sC]
  intro w1 hw1 hk1
  obtain ⟨g12, g7, g4, g2, -⟩ := hk1
  obtain ⟨X8, rfl, hge8, hx8⟩ := g12
  have HX8 := Lib.hid hx8
  have hhX8 := ((Bel.refl w1)).heap HX8.out
  have HHX8 := Lib.hid hhX8
  have dX80 : w1.cell? ⟨X8, 0, none⟩ = some (.bool false) := (heap_cell hhX8 0).trans rfl
  have fX80 : w1.frozen? ⟨X8, 0, none⟩ = false := heap_frozen hhX8 0
  have dX81 : w1.cell? ⟨X8, 1, none⟩ = some (.slice none 0 0) := (heap_cell hhX8 1).trans rfl
  have fX81 : w1.frozen? ⟨X8, 1, none⟩ = false := heap_frozen hhX8 1
  have dX82 : w1.cell? ⟨X8, 2, none⟩ = some (.slice none 0 0) := (heap_cell hhX8 2).trans rfl
  have fX82 : w1.frozen? ⟨X8, 2, none⟩ = false := heap_frozen hhX8 2
  clear hhX8
  have HB0 := Lib.hid hw1
  have HGE8 := Lib.hid hge8
  clear hw1 hx8 hge8 g7 g4 g2
  go_upto_region 3 with fail
  obtain ⟨W9, hW9⟩ : ∃ W', ((w1.setCell ⟨X8, 0, none⟩ (.bool false)).setCell ⟨X8, 1, none⟩ (.slice none 0 0)).setCell ⟨X8, 2, none⟩ (.slice none 0 0) = W' := ⟨_, rfl⟩
  rw [hW9]
  obtain ⟨r1, r3, r4⟩ := rstore_any HX8.out (HBW6.out.trans HB0.out) (Nat.le_trans HBW6.out.size HGE8.out) hW9.symm
  have hkR := (r4 XR (by have := heap_lt HXR.out; have := HGE8.out; omega)).trans (HB0.out.heap HXR.out)
  have hku := (r4 Xu (by have := heap_lt HXu.out; have := HGE8.out; omega)).trans (HB0.out.heap HXu.out)
  have hka := (r4 Xa (by have := heap_lt HXa.out; have := HGE8.out; omega)).trans (HB0.out.heap HXa.out)
  have hkb := (r4 Xb (by have := heap_lt HXb.out; have := HGE8.out; omega)).trans (HB0.out.heap HXb.out)
  clear HXR HXu HXa HXb HX8 HHX8 HBW6 HXd HGd r4 hW9 HB0 HGE8 dX80 dX81 dX82 fX80 fX81 fX82
  have HXR := Lib.hid hkR
  clear hkR
  have HXu := Lib.hid hku
  clear hku
  have HXa := Lib.hid hka
  clear hka
  have HXb := Lib.hid hkb
  clear hkb
  have HX8 := Lib.hid r1
  have HBW6 := Lib.hid r3
  clear r1 r3
  refine line_region 7 [[], [0], [1], [2], [2, 3], [2, 4], [2, 5]] [.is (.int .i64 12), .is (.bool true), .is (.bool true), .is undef, .is undef, .is undef, .is (.bool true)] rfl rfl (by decide) (by simp only [Steady]) ?_
  simp only [List.take_succ_cons, List.take_zero, List.drop_succ_cons, List.drop_zero]
  refine fV (by rfl) (by intro w1 hw1 hk1; go_simp) ?_
  simp only [Act.put, sA, sB, sC]
  refine fV (by rfl) (by intro w1 hw1 hk1; go_simp) ?_
  simp only [Act.put, sA, sB, sC]
  refine fV (by rfl) (by intro w1 hw1 hk1; go_simp) ?_
  simp only [Act.put, sA, sB, sC]
  refine flow_is (fun w1 hw1 hk1 => wantnot (fun h => Bool.noConfusion (show false = true from h)) rfl) ?_
  simp only [Act.put, sA, sB, sC]
  refine flow_is (fun w1 hw1 hk1 => wantnot (fun h => Bool.noConfusion (show false = true from h)) rfl) ?_
  simp only [Act.put, sA, sB, sC]
  refine flow_is (fun w1 hw1 hk1 => wantnot (fun h => Bool.noConfusion (show false = true from h)) rfl) ?_
  simp only [Act.put, sA, sB, sC]
  refine fV (by rfl) (by intro w1 hw1 hk1; go_simp) ?_
  simp only [Act.put, sA, sB, sC]
  intro w1 hw1 hk1
  have hkR := hw1.heap HXR.out
  clear HXR
  have HXR := Lib.hid hkR
  clear hkR
  have hku := hw1.heap HXu.out
  clear HXu
  have HXu := Lib.hid hku
  clear hku
  have hka := hw1.heap HXa.out
  clear HXa
  have HXa := Lib.hid hka
  clear hka
  have hkb := hw1.heap HXb.out
  clear HXb
  have HXb := Lib.hid hkb
  clear hkb
  have hkB := HBW6.out.trans hw1
  clear HBW6
  have HBW6 := Lib.hid hkB
  clear hkB hw1
  go_upto_region 4 with fail
  refine line_region 3 [[], [], [0, 1]] [.is (.agg #[.bool su1, .slice pu1 ku1 cu1, .slice qu1 ju1 du1, .bool su2, .slice pu2 ku2 cu2, .slice qu2 ju2 du2]), .is (.agg #[.bool sa1, .slice pa1 ka1 ca1, .slice qa1 ja1 da1, .bool sa2, .slice pa2 ka2 ca2, .slice qa2 ja2 da2]), .has (fun v w => RC w v R1)] rfl rfl (by decide) (by simp only [Steady]; exact ⟨fun _ _ _ h hb => h.bel hb, trivial⟩) ?_
  simp only [List.take_succ_cons, List.take_zero, List.drop_succ_cons, List.drop_zero]
  refine fV (by rfl) (by intro w1 hw1 hk1; obtain ⟨c0, c1, c2, c3, c4, c5⟩ := boxc6 (hw1.heap HXu.out); go_simp) ?_
  simp only [Act.put, sA, sB, sC]
  refine fV (by rfl) (by intro w1 hw1 hk1; obtain ⟨c0, c1, c2, c3, c4, c5⟩ := boxc6 (hw1.heap HXa.out); go_simp) ?_
  simp only [Act.put, sA, sB, sC]
  refine fH (by rfl) (by intro w1 hw1 hk1; exact HF1.out _ (HBW6.out.trans hw1)) (by intro; go_simp) (fun v2 => ?_)
  simp only [Act.put, sA, sB, sC]
  intro w1 hw1 hk1
  obtain ⟨g2, -⟩ := hk1
  obtain ⟨pr1, kr1, cr1, qr1, jr1, dr1, rfl, -, -⟩ := g2.slice
  have HV := Lib.hid g2
  have HB3 := Lib.hid hw1
  have hhXR := (HB3.out).heap HXR.out
  have HHXR := Lib.hid hhXR
  have dXR0 : w1.cell? ⟨XR, 0, none⟩ = some (.bool false) := (heap_cell hhXR 0).trans rfl
  have fXR0 : w1.frozen? ⟨XR, 0, none⟩ = false := heap_frozen hhXR 0
  have dXR1 : w1.cell? ⟨XR, 1, none⟩ = some (.slice none 0 0) := (heap_cell hhXR 1).trans rfl
  have fXR1 : w1.frozen? ⟨XR, 1, none⟩ = false := heap_frozen hhXR 1
  have dXR2 : w1.cell? ⟨XR, 2, none⟩ = some (.slice none 0 0) := (heap_cell hhXR 2).trans rfl
  have fXR2 : w1.frozen? ⟨XR, 2, none⟩ = false := heap_frozen hhXR 2
  clear hhXR
  clear hw1 g2
  go_wp2
  obtain ⟨kb, kp, kh⟩ := finAll (vs := [.bool (decide (R1.num < 0)), .slice pr1 kr1 cr1, .slice qr1 jr1 dr1]) (HBW6.out.trans HB3.out) HHXR.out rfl HGEXR.out (Φ := fun W2 => RC W2 (.agg #[.bool (decide (R1.num < 0)), .slice pr1 kr1 cr1, .slice qr1 jr1 dr1]) R1) (fun W2 ho => HV.out.only ho HHXR.out (noInt_rat _ _ _ _ _ _ _))
  have kk0 : (setAll w1 XR 0 [.bool (decide (R1.num < 0)), .slice pr1 kr1 cr1, .slice qr1 jr1 dr1]).cell? ⟨XR, 0, none⟩ = some (.bool (decide (R1.num < 0))) := (heap_cell kh 0).trans rfl
  have kk1 : (setAll w1 XR 0 [.bool (decide (R1.num < 0)), .slice pr1 kr1 cr1, .slice qr1 jr1 dr1]).cell? ⟨XR, 1, none⟩ = some (.slice pr1 kr1 cr1) := (heap_cell kh 1).trans rfl
  have kk2 : (setAll w1 XR 0 [.bool (decide (R1.num < 0)), .slice pr1 kr1 cr1, .slice qr1 jr1 dr1]).cell? ⟨XR, 2, none⟩ = some (.slice qr1 jr1 dr1) := (heap_cell kh 2).trans rfl
  simp only [setAll] at kb kp kk0 kk1 kk2
  exact bodyPost_ret (v := .agg #[.bool (decide (R1.num < 0)), .slice pr1 kr1 cr1, .slice qr1 jr1 dr1]) (by simp [results, Tryz.results41, go_sem, kk0, kk1, kk2]) rfl ⟨_, rfl, kb, kp⟩
set_option maxHeartbeats 4000000 in
set_option maxRecDepth 100000 in
theorem mk_toSeg1 {w : World} {u a b : Value} {px py ax ay bx cy : Rat} {i : Nat} (hu : PS i w u px py) (ha : PS i w a ax ay) (hb : PS i w b bx cy) (hl : 80 * i + 60 < LimK) (h0 : (bx - ax) * (bx - ax) + (cy - ay) * (cy - ay) ≠ 0) : Calls Tryz.prog 41 #[u, a, b] w (Makes w fun v w' => RC w' v (segR px py ax ay bx cy)) := by
  obtain ⟨_, _, _, _, _, _, -, hx0, hy0⟩ := id hu
  obtain ⟨_, _, _, _, _, _, -, hx1, hy1⟩ := id ha
  obtain ⟨_, _, _, _, _, _, -, hx2, hy2⟩ := id hb
  have s1 := hx2.2.sub hx1.2
  have s2 := hy2.2.sub hy1.2
  have e1 := hx0.2.sub hx1.2
  have e2 := hy0.2.sub hy1.2
  have n1 := (e1.mul s1).add (e2.mul s2)
  have n2 := (s1.mul s1).add (s2.mul s2)
  have HSD := Lib.hid (fun X (hX : Bel w X) => mk_psub (hb.bel hX) (ha.bel hX) (by omega))
  have HSE := Lib.hid (fun X (hX : Bel w X) => mk_psub (hu.bel hX) (ha.bel hX) (by omega))
  have HDN : Hid (∀ X u v, PC X u (px - ax) (py - ay) → PC X v (bx - ax) (cy - ay) → _) := fun X u v hu hv => mk_dot (hu.ps e1 e2 (by omega)) (hv.ps s1 s2 (by omega)) (by omega)
  have HDD : Hid (∀ X v, PC X v (bx - ax) (cy - ay) → _) := fun X v hv => mk_dot (hv.ps s1 s2 (by omega)) (hv.ps s1 s2 (by omega)) (by omega)
  have HF1 := Lib.hid (fun X (hX : Bel w X) => mk_far (hu.bel hX) (ha.bel hX) (by omega))
  have nt := n1.div n2 (fun h => h0 (Rat.num_eq_zero.1 h))
  have m1 := hx1.2.add (s1.mul nt)
  have m2 := hy1.2.add (s2.mul nt)
  have HDV : Hid (∀ X u v, RC X u ((px - ax) * (bx - ax) + (py - ay) * (cy - ay)) → RC X v ((bx - ax) * (bx - ax) + (cy - ay) * (cy - ay)) → _) := fun X u v hu hv => mk_rdiv (hu.rs n1 (by omega)) (hv.rs n2 (by omega)) (by omega) h0
  have HF2 := Lib.hid (fun X (hX : Bel w X) => mk_far (hu.bel hX) (hb.bel hX) (by omega))
  have HF3 : Hid (∀ X v (_ : Bel w X), PC X v (ax + (bx - ax) * (((px - ax) * (bx - ax) + (py - ay) * (cy - ay)) / ((bx - ax) * (bx - ax) + (cy - ay) * (cy - ay)))) (ay + (cy - ay) * (((px - ax) * (bx - ax) + (py - ay) * (cy - ay)) / ((bx - ax) * (bx - ax) + (cy - ay) * (cy - ay)))) → _) := fun X v hX hv => mk_far (hu.bel hX) (hv.ps m1 m2 (by omega)) (by omega)
  have HSG : Hid (∀ X u, RC X u (((px - ax) * (bx - ax) + (py - ay) * (cy - ay)) / ((bx - ax) * (bx - ax) + (cy - ay) * (cy - ay))) → _) := fun X u hu => mk_rsign (hu.ri nt (by omega))
  have HOF : Hid (∀ X, _) := fun X => mk_rof (p := 1) (q := 1) (by decide) (by decide) (by decide) (by decide) (by decide) X
  rw [show mkRat (if (1 : Int) < 0 then -1 else 1) (1 : Int).natAbs = 1 from by decide] at HOF
  have z1 : Sz 1 1 := ⟨by decide, by decide⟩
  have HCM : Hid (∀ X u v, RC X u (((px - ax) * (bx - ax) + (py - ay) * (cy - ay)) / ((bx - ax) * (bx - ax) + (cy - ay) * (cy - ay))) → RC X v 1 → _) := fun X u v hu hv => mk_rcmp (hu.rs nt (by omega)) (hv.rs z1 (by decide)) (by omega)
  have HMX : Hid (∀ X u (_ : Bel w X), RC X u (((px - ax) * (bx - ax) + (py - ay) * (cy - ay)) / ((bx - ax) * (bx - ax) + (cy - ay) * (cy - ay))) → _) := fun X u hX hu => mk_mix (ha.bel hX) (hb.bel hX) (hu.rs nt (by omega)) (by omega)
  clear nt m1 m2 h0 z1
  unfold segR tSeg
  obtain ⟨R1, hR1⟩ : ∃ Z, farR px py ax ay = Z := ⟨_, rfl⟩
  rw [hR1] at HF1 ⊢
  obtain ⟨R2, hR2⟩ : ∃ Z, farR px py bx cy = Z := ⟨_, rfl⟩
  rw [hR2] at HF2 ⊢
  obtain ⟨T, hT⟩ : ∃ Z, ((px - ax) * (bx - ax) + (py - ay) * (cy - ay)) / ((bx - ax) * (bx - ax) + (cy - ay) * (cy - ay)) = Z := ⟨_, rfl⟩
  rw [hT] at HDV HF3 HSG HCM HMX ⊢
  obtain ⟨M1, hM1⟩ : ∃ Z, ax + (bx - ax) * T = Z := ⟨_, rfl⟩
  obtain ⟨M2, hM2⟩ : ∃ Z, ay + (cy - ay) * T = Z := ⟨_, rfl⟩
  rw [hM1, hM2] at HMX HF3 ⊢
  obtain ⟨R3, hR3⟩ : ∃ Z, farR px py M1 M2 = Z := ⟨_, rfl⟩
  rw [hR3] at HF3 ⊢
  obtain ⟨N, hN⟩ : ∃ Z, (px - ax) * (bx - ax) + (py - ay) * (cy - ay) = Z := ⟨_, rfl⟩
  obtain ⟨DD, hDD⟩ : ∃ Z, (bx - ax) * (bx - ax) + (cy - ay) * (cy - ay) = Z := ⟨_, rfl⟩
  rw [hN] at HDN HDV
  rw [hDD] at HDD HDV
  obtain ⟨D1, hD1⟩ : ∃ Z, bx - ax = Z := ⟨_, rfl⟩
  obtain ⟨D2, hD2⟩ : ∃ Z, cy - ay = Z := ⟨_, rfl⟩
  obtain ⟨E1, hE1⟩ : ∃ Z, px - ax = Z := ⟨_, rfl⟩
  obtain ⟨E2, hE2⟩ : ∃ Z, py - ay = Z := ⟨_, rfl⟩
  rw [hD1, hD2] at HSD HDN HDD
  rw [hE1, hE2] at HSE HDN
  obtain ⟨C0, hC0⟩ : ∃ Z, cmpR T 0 = Z := ⟨_, rfl⟩
  obtain ⟨C1, hC1⟩ : ∃ Z, cmpR T 1 = Z := ⟨_, rfl⟩
  rw [hC0] at HSG ⊢
  rw [hC1] at HCM ⊢
  clear hR1 hR2 hR3 hT hM1 hM2 hN hDD hD1 hD2 hE1 hE2 hC0 hC1 s1 s2 e1 e2 n1 n2 hx0 hx1 hx2 hy0 hy1 hy2 hl
  by_cases h1 : C0 < 0
  · rw [if_pos h1]
    have HC0 := Lib.hid h1
    clear h1 HF2 HF3 HCM HOF HMX
    obtain ⟨su1, pu1, ku1, cu1, qu1, ju1, du1, su2, pu2, ku2, cu2, qu2, ju2, du2, rfl, hu1, hu2⟩ := hu.parts
    have HPu := Lib.hid hu
    have HPu1 := Lib.hid hu1
    have HPu2 := Lib.hid hu2
    clear hu hu1 hu2
    obtain ⟨sa1, pa1, ka1, ca1, qa1, ja1, da1, sa2, pa2, ka2, ca2, qa2, ja2, da2, rfl, ha1, ha2⟩ := ha.parts
    have HPa := Lib.hid ha
    have HPa1 := Lib.hid ha1
    have HPa2 := Lib.hid ha2
    clear ha ha1 ha2
    obtain ⟨sb1, pb1, kb1, cb1, qb1, jb1, db1, sb2, pb2, kb2, cb2, qb2, jb2, db2, rfl, hb1, hb2⟩ := hb.parts
    have HPb := Lib.hid hb
    have HPb1 := Lib.hid hb1
    have HPb2 := Lib.hid hb2
    clear hb hb1 hb2
    go_enter Tryz.func41, Tryz.ntmps41
    go_upto_region 1 with fail
    obtain ⟨hXu, hXa, hXb, hXR, hbw⟩ := boxes4 w (.cells #[.bool su1, .slice pu1 ku1 cu1, .slice qu1 ju1 du1, .bool su2, .slice pu2 ku2 cu2, .slice qu2 ju2 du2] 28) (.cells #[.bool sa1, .slice pa1 ka1 ca1, .slice qa1 ja1 da1, .bool sa2, .slice pa2 ka2 ca2, .slice qa2 ja2 da2] 28) (.cells #[.bool sb1, .slice pb1 kb1 cb1, .slice qb1 jb1 db1, .bool sb2, .slice pb2 kb2 cb2, .slice qb2 jb2 db2] 28) (.cells #[.bool false, .slice none 0 0, .slice none 0 0] 26)
    obtain ⟨W, hW⟩ : ∃ W, (((w.alloc (.cells #[.bool su1, .slice pu1 ku1 cu1, .slice qu1 ju1 du1, .bool su2, .slice pu2 ku2 cu2, .slice qu2 ju2 du2] 28)).alloc (.cells #[.bool sa1, .slice pa1 ka1 ca1, .slice qa1 ja1 da1, .bool sa2, .slice pa2 ka2 ca2, .slice qa2 ja2 da2] 28)).alloc (.cells #[.bool sb1, .slice pb1 kb1 cb1, .slice qb1 jb1 db1, .bool sb2, .slice pb2 kb2 cb2, .slice qb2 jb2 db2] 28)).alloc (.cells #[.bool false, .slice none 0 0, .slice none 0 0] 26) = W := ⟨_, rfl⟩
    rw [hW] at hXu hXa hXb hXR hbw ⊢
    obtain ⟨Xu, eXu⟩ : ∃ X, w.heap.size = X := ⟨_, rfl⟩
    obtain ⟨Xa, eXa⟩ : ∃ X, Xu + 1 = X := ⟨_, rfl⟩
    obtain ⟨Xb, eXb⟩ : ∃ X, Xa + 1 = X := ⟨_, rfl⟩
    obtain ⟨XR, eXR⟩ : ∃ X, Xb + 1 = X := ⟨_, rfl⟩
    rw [eXu, eXa, eXb, eXR]
    rw [eXu] at hXu hXa hXb hXR
    rw [eXa] at hXa hXb hXR
    rw [eXb] at hXb hXR
    rw [eXR] at hXR
    have HXu := Lib.hid hXu
    have HXa := Lib.hid hXa
    have HXb := Lib.hid hXb
    have HXR := Lib.hid hXR
    have HBW := Lib.hid hbw
    have HGEXu : Hid (w.heap.size ≤ Xu) := by unfold Hid; omega
    have HGEXa : Hid (w.heap.size ≤ Xa) := by unfold Hid; omega
    have HGEXb : Hid (w.heap.size ≤ Xb) := by unfold Hid; omega
    have HGEXR : Hid (w.heap.size ≤ XR) := by unfold Hid; omega
    have HLT : Hid (Xu < Xa ∧ Xa < Xb ∧ Xb < XR) := by unfold Hid; omega
    clear hW hbw hXu hXa hXb hXR eXu eXa eXb eXR
    refine line_region 3 [[], [], [0, 1]] [.is (.agg #[.bool sb1, .slice pb1 kb1 cb1, .slice qb1 jb1 db1, .bool sb2, .slice pb2 kb2 cb2, .slice qb2 jb2 db2]), .is (.agg #[.bool sa1, .slice pa1 ka1 ca1, .slice qa1 ja1 da1, .bool sa2, .slice pa2 ka2 ca2, .slice qa2 ja2 da2]), .has (fun v w => PC w v D1 D2)] rfl rfl (by decide) (by simp only [Steady]; exact ⟨fun _ _ _ h hb => h.bel hb, trivial⟩) ?_
    simp only [List.take_succ_cons, List.take_zero, List.drop_succ_cons, List.drop_zero]
    refine fV (by rfl) (by intro w1 hw1 hk1; obtain ⟨c0, c1, c2, c3, c4, c5⟩ := boxc6 (hw1.heap HXb.out); go_simp) ?_
    simp only [Act.put, sA, sB, sC]
    refine fV (by rfl) (by intro w1 hw1 hk1; obtain ⟨c0, c1, c2, c3, c4, c5⟩ := boxc6 (hw1.heap HXa.out); go_simp) ?_
    simp only [Act.put, sA, sB, sC]
    refine fH (by rfl) (by intro w1 hw1 hk1; exact HSD.out _ (HBW.out.trans hw1)) (by intro; go_simp) (fun v2 => ?_)
    simp only [Act.put, sA, sB, sC]
    intro w1 hw1 hk1
    obtain ⟨g2, -⟩ := hk1
    obtain ⟨pd1, kd1, cd1, qd1, jd1, dd1, pd2, kd2, cd2, qd2, jd2, dd2, rfl, -, -⟩ := g2.slice
    have HGd0 := Lib.hid g2
    have HB0 := Lib.hid hw1
    clear g2 hw1
    go_upto_region 2 with fail
    obtain ⟨r1, bb5⟩ := boxes1 w1 (.cells #[.bool (decide (D1.num < 0)), .slice pd1 kd1 cd1, .slice qd1 jd1 dd1, .bool (decide (D2.num < 0)), .slice pd2 kd2 cd2, .slice qd2 jd2 dd2] 28 (0, 0))
    obtain ⟨Xd, hXd⟩ : ∃ X, w1.heap.size = X := ⟨_, rfl⟩
    rw [hXd] at r1 ⊢
    obtain ⟨W6, hW6⟩ : ∃ W', w1.alloc (.cells #[.bool (decide (D1.num < 0)), .slice pd1 kd1 cd1, .slice qd1 jd1 dd1, .bool (decide (D2.num < 0)), .slice pd2 kd2 cd2, .slice qd2 jd2 dd2] 28 (0, 0)) = W' := ⟨_, rfl⟩
    rw [hW6] at r1 bb5 ⊢
    have HXd := Lib.hid r1
    have HGd := Lib.hid (HGd0.out.bel bb5)
    have HBW6 := Lib.hid (HBW.out.trans (HB0.out.trans bb5))
    have hkR := HB0.out.trans bb5 |>.heap HXR.out
    clear HXR
    have HXR := Lib.hid hkR
    clear hkR
    have hku := HB0.out.trans bb5 |>.heap HXu.out
    clear HXu
    have HXu := Lib.hid hku
    clear hku
    have hka := HB0.out.trans bb5 |>.heap HXa.out
    clear HXa
    have HXa := Lib.hid hka
    clear hka
    have hkb := HB0.out.trans bb5 |>.heap HXb.out
    clear HXb
    have HXb := Lib.hid hkb
    clear hkb
    clear r1 bb5 hXd hW6 HGd0 HB0
    refine region_flow_hole 13 11 _ [[], [], [0, 1], [], [2, 3], [], [], [5, 6], [4, 7], [8], [9], [9], []] [.is (.agg #[.bool su1, .slice pu1 ku1 cu1, .slice qu1 ju1 du1, .bool su2, .slice pu2 ku2 cu2, .slice qu2 ju2 du2]), .is (.agg #[.bool sa1, .slice pa1 ka1 ca1, .slice qa1 ja1 da1, .bool sa2, .slice pa2 ka2 ca2, .slice qa2 ja2 da2]), .has (fun v w => PC w v E1 E2), .is (.agg #[.bool (decide (D1.num < 0)), .slice pd1 kd1 cd1, .slice qd1 jd1 dd1, .bool (decide (D2.num < 0)), .slice pd2 kd2 cd2, .slice qd2 jd2 dd2]), .has (fun v w => RC w v N), .is (.agg #[.bool (decide (D1.num < 0)), .slice pd1 kd1 cd1, .slice qd1 jd1 dd1, .bool (decide (D2.num < 0)), .slice pd2 kd2 cd2, .slice qd2 jd2 dd2]), .is (.agg #[.bool (decide (D1.num < 0)), .slice pd1 kd1 cd1, .slice qd1 jd1 dd1, .bool (decide (D2.num < 0)), .slice pd2 kd2 cd2, .slice qd2 jd2 dd2]), .has (fun v w => RC w v DD), .has (fun v w => ∃ u, v = .tuple #[u, .int .i64 0] ∧ RC w u T), .has (fun v w => ∃ u, v = .tuple #[u, .int .i64 0] ∧ RC w u T), .has (fun v w => RC w v T), .is (.int .i64 0), .has (fun v w => ∃ X, v = .pointer (some ⟨X, 0, none⟩) ∧ W6.heap.size ≤ X ∧ w.heap[X]? = some (.cells #[.bool false, .slice none 0 0, .slice none 0 0] 26 (0, 0)))] (by kernel_rfl) (by kernel_rfl) rfl (by kernel_rfl) (fun _ _ _ _ h => h) (fun a w c h w' => extract_pure rfl a w c h w') ⟨_, rfl⟩ rfl (by simp only [Steady]; exact ⟨fun _ _ _ h hb => h.bel hb, fun _ _ _ h hb => h.bel hb, fun _ _ _ h hb => h.bel hb, fun _ _ _ h hb => by obtain ⟨u, h1, h2⟩ := h; exact ⟨u, h1, h2.bel hb⟩, fun _ _ _ h hb => by obtain ⟨u, h1, h2⟩ := h; exact ⟨u, h1, h2.bel hb⟩, fun _ _ _ h hb => h.bel hb, fun _ _ _ h hb => by obtain ⟨X, h1, h2, h3⟩ := h; exact ⟨X, h1, h2, hb.heap h3⟩, trivial⟩) ?_
    simp only [List.take_succ_cons, List.take_zero, List.drop_succ_cons, List.drop_zero]
    refine fV (by rfl) (by intro w1 hw1 hk1; obtain ⟨c0, c1, c2, c3, c4, c5⟩ := boxc6 (hw1.heap HXu.out); go_simp) ?_
    simp only [Act.put, sA, sB, sC]
    refine fV (by rfl) (by intro w1 hw1 hk1; obtain ⟨c0, c1, c2, c3, c4, c5⟩ := boxc6 (hw1.heap HXa.out); go_simp) ?_
    simp only [Act.put, sA, sB, sC]
    refine fH (by rfl) (by intro w1 hw1 hk1; exact HSE.out _ (HBW6.out.trans hw1)) (by intro; go_simp) (fun v2 => ?_)
    simp only [Act.put, sA, sB, sC]
    refine fV (by rfl) (by intro w1 hw1 hk1; obtain ⟨c0, c1, c2, c3, c4, c5⟩ := boxc6 (hw1.heap HXd.out); go_simp) ?_
    simp only [Act.put, sA, sB, sC]
    refine fH (by rfl) (by intro w1 hw1 hk1; obtain ⟨g2, -⟩ := hk1; exact HDN.out _ _ _ g2 (HGd.out.bel hw1)) (by intro; go_simp) (fun v4 => ?_)
    simp only [Act.put, sA, sB, sC]
    refine fV (by rfl) (by intro w1 hw1 hk1; obtain ⟨c0, c1, c2, c3, c4, c5⟩ := boxc6 (hw1.heap HXd.out); go_simp) ?_
    simp only [Act.put, sA, sB, sC]
    refine fV (by rfl) (by intro w1 hw1 hk1; obtain ⟨c0, c1, c2, c3, c4, c5⟩ := boxc6 (hw1.heap HXd.out); go_simp) ?_
    simp only [Act.put, sA, sB, sC]
    refine fH (by rfl) (by intro w1 hw1 hk1; exact HDD.out _ _ (HGd.out.bel hw1)) (by intro; go_simp) (fun v7 => ?_)
    simp only [Act.put, sA, sB, sC]
    refine fH (by rfl) (by intro w1 hw1 hk1; obtain ⟨g7, g4, -, -⟩ := hk1; exact HDV.out _ _ _ g4 g7) (by intro; go_simp) (fun v8 => ?_)
    simp only [Act.put, sA, sB, sC]
    refine flow_has (by intro w1 hw1 hk1; obtain ⟨g8, -, -, -, -⟩ := hk1; obtain ⟨u, rfl, h⟩ := g8; refine want (by rfl) (gives_of (c := .tuple #[u, .int .i64 0]) (by go_simp) ?_); exact ⟨u, rfl, h⟩) (fun v9 => ?_)
    simp only [Act.put, sA, sB, sC]
    refine flow_has (by intro w1 hw1 hk1; obtain ⟨g9, -, -, -, -, -⟩ := hk1; obtain ⟨u, rfl, h⟩ := g9; refine want (by rfl) (gives_of (c := u) (by go_simp) ?_); exact h) (fun v10 => ?_)
    simp only [Act.put, sA, sB, sC]
    refine flow_is (by intro w1 hw1 hk1; obtain ⟨-, g9, -, -, -, -, -⟩ := hk1; obtain ⟨u, rfl, h⟩ := g9; refine want (by rfl) (gives_val ?_); go_simp) ?_
    simp only [Act.put, sA, sB, sC]
    refine flow_has (by intro w1 hw1 hk1; refine want (by rfl) (gives_new (c := .pointer (some ⟨w1.heap.size, 0, none⟩)) (w' := w1.alloc (.cells #[.bool false, .slice none 0 0, .slice none 0 0] 26 (0, 0))) (by go_simp) ((Bel.refl w1).alloc _) ?_); exact ⟨_, rfl, hw1.size, (boxes1 _ _).1⟩) (fun v12 => ?_)
    simp only [Act.put, sA, sB, sC]
    intro w1 hw1 hk1
    obtain ⟨g12, g10, g9, g8, g7, g4, g2, -⟩ := hk1
    obtain ⟨X8, rfl, hge8, hx8⟩ := g12
    have HX8 := Lib.hid hx8
    have hhX8 := ((Bel.refl w1)).heap HX8.out
    have HHX8 := Lib.hid hhX8
    have dX80 : w1.cell? ⟨X8, 0, none⟩ = some (.bool false) := (heap_cell hhX8 0).trans rfl
    have fX80 : w1.frozen? ⟨X8, 0, none⟩ = false := heap_frozen hhX8 0
    have dX81 : w1.cell? ⟨X8, 1, none⟩ = some (.slice none 0 0) := (heap_cell hhX8 1).trans rfl
    have fX81 : w1.frozen? ⟨X8, 1, none⟩ = false := heap_frozen hhX8 1
    have dX82 : w1.cell? ⟨X8, 2, none⟩ = some (.slice none 0 0) := (heap_cell hhX8 2).trans rfl
    have fX82 : w1.frozen? ⟨X8, 2, none⟩ = false := heap_frozen hhX8 2
    clear hhX8
    obtain ⟨pt1, kt1, ct1, qt1, jt1, dt1, rfl, -, -⟩ := g10.slice
    have HT := Lib.hid g10
    have HB0 := Lib.hid hw1
    have HGE8 := Lib.hid hge8
    clear hw1 hx8 hge8 g7 g4 g2 g8 g9 g10
    go_upto_region 3 with fail
    obtain ⟨W9, hW9⟩ : ∃ W', ((w1.setCell ⟨X8, 0, none⟩ (.bool (decide (T.num < 0)))).setCell ⟨X8, 1, none⟩ (.slice pt1 kt1 ct1)).setCell ⟨X8, 2, none⟩ (.slice qt1 jt1 dt1) = W' := ⟨_, rfl⟩
    rw [hW9]
    obtain ⟨r1, r2, r3, r4⟩ := rstore_one HX8.out (noInt_rat _ _ _ _ _ _ _) HT.out (HBW6.out.trans HB0.out) (Nat.le_trans HBW6.out.size HGE8.out) hW9.symm
    have hkR := (r4 XR (by have := heap_lt HXR.out; have := HGE8.out; omega)).trans (HB0.out.heap HXR.out)
    have hku := (r4 Xu (by have := heap_lt HXu.out; have := HGE8.out; omega)).trans (HB0.out.heap HXu.out)
    have hka := (r4 Xa (by have := heap_lt HXa.out; have := HGE8.out; omega)).trans (HB0.out.heap HXa.out)
    have hkb := (r4 Xb (by have := heap_lt HXb.out; have := HGE8.out; omega)).trans (HB0.out.heap HXb.out)
    clear HXR HXu HXa HXb HX8 HHX8 HBW6 HXd HGd r4 hW9 HB0 HGE8 dX80 dX81 dX82 fX80 fX81 fX82 HT
    have HXR := Lib.hid hkR
    clear hkR
    have HXu := Lib.hid hku
    clear hku
    have HXa := Lib.hid hka
    clear hka
    have HXb := Lib.hid hkb
    clear hkb
    have HX8 := Lib.hid r1
    have HBW6 := Lib.hid r3
    have HT := Lib.hid r2
    clear r1 r3 r2
    refine line_region 7 [[], [0], [1], [2], [2, 3], [2, 4], [2, 5]] [.is (.int .i64 0), .is (.bool false), .is (.bool false), .is (.agg #[.bool (decide (T.num < 0)), .slice pt1 kt1 ct1, .slice qt1 jt1 dt1]), .is (.int .i64 C0), .is (.bool true), .is (.bool true)] rfl rfl (by decide) (by simp only [Steady]) ?_
    simp only [List.take_succ_cons, List.take_zero, List.drop_succ_cons, List.drop_zero]
    refine fV (by rfl) (by intro w1 hw1 hk1; go_simp) ?_
    simp only [Act.put, sA, sB, sC]
    refine fV (by rfl) (by intro w1 hw1 hk1; go_simp) ?_
    simp only [Act.put, sA, sB, sC]
    refine fV (by rfl) (by intro w1 hw1 hk1; go_simp) ?_
    simp only [Act.put, sA, sB, sC]
    refine fV (by rfl) (by intro w1 hw1 hk1; obtain ⟨c0, c1, c2⟩ := boxc3 (hw1.heap HX8.out); go_simp) ?_
    simp only [Act.put, sA, sB, sC]
    refine fC (by rfl) (by intro w1 hw1 hk1; exact HSG.out _ _ (HT.out.bel hw1)) (by intro; go_simp) ?_
    simp only [Act.put, sA, sB, sC]
    refine flow_is (by intro w1 hw1 hk1; refine want (by rfl) (gives_val ?_); go_simp; (first | (have := HC0.out; omega) | simp [HC0.out])) ?_
    simp only [Act.put, sA, sB, sC]
    refine fV (by rfl) (by intro w1 hw1 hk1; go_simp) ?_
    simp only [Act.put, sA, sB, sC]
    intro w1 hw1 hk1
    have hkR := hw1.heap HXR.out
    clear HXR
    have HXR := Lib.hid hkR
    clear hkR
    have hku := hw1.heap HXu.out
    clear HXu
    have HXu := Lib.hid hku
    clear hku
    have hka := hw1.heap HXa.out
    clear HXa
    have HXa := Lib.hid hka
    clear hka
    have hkb := hw1.heap HXb.out
    clear HXb
    have HXb := Lib.hid hkb
    clear hkb
    have hk8 := hw1.heap HX8.out
    clear HX8
    have HX8 := Lib.hid hk8
    clear hk8
    have hkHT := HT.out.bel hw1
    clear HT
    have HT := Lib.hid hkHT
    clear hkHT
    have hkB := HBW6.out.trans hw1
    clear HBW6
    have HBW6 := Lib.hid hkB
    clear hkB hw1
    go_upto_region 4 with fail
    refine line_region 3 [[], [], [0, 1]] [.is (.agg #[.bool su1, .slice pu1 ku1 cu1, .slice qu1 ju1 du1, .bool su2, .slice pu2 ku2 cu2, .slice qu2 ju2 du2]), .is (.agg #[.bool sa1, .slice pa1 ka1 ca1, .slice qa1 ja1 da1, .bool sa2, .slice pa2 ka2 ca2, .slice qa2 ja2 da2]), .has (fun v w => RC w v R1)] rfl rfl (by decide) (by simp only [Steady]; exact ⟨fun _ _ _ h hb => h.bel hb, trivial⟩) ?_
    simp only [List.take_succ_cons, List.take_zero, List.drop_succ_cons, List.drop_zero]
    refine fV (by rfl) (by intro w1 hw1 hk1; obtain ⟨c0, c1, c2, c3, c4, c5⟩ := boxc6 (hw1.heap HXu.out); go_simp) ?_
    simp only [Act.put, sA, sB, sC]
    refine fV (by rfl) (by intro w1 hw1 hk1; obtain ⟨c0, c1, c2, c3, c4, c5⟩ := boxc6 (hw1.heap HXa.out); go_simp) ?_
    simp only [Act.put, sA, sB, sC]
    refine fH (by rfl) (by intro w1 hw1 hk1; exact HF1.out _ (HBW6.out.trans hw1)) (by intro; go_simp) (fun v2 => ?_)
    simp only [Act.put, sA, sB, sC]
    intro w1 hw1 hk1
    obtain ⟨g2, -⟩ := hk1
    obtain ⟨pr1, kr1, cr1, qr1, jr1, dr1, rfl, -, -⟩ := g2.slice
    have HV := Lib.hid g2
    have HB3 := Lib.hid hw1
    have hhXR := (HB3.out).heap HXR.out
    have HHXR := Lib.hid hhXR
    have dXR0 : w1.cell? ⟨XR, 0, none⟩ = some (.bool false) := (heap_cell hhXR 0).trans rfl
    have fXR0 : w1.frozen? ⟨XR, 0, none⟩ = false := heap_frozen hhXR 0
    have dXR1 : w1.cell? ⟨XR, 1, none⟩ = some (.slice none 0 0) := (heap_cell hhXR 1).trans rfl
    have fXR1 : w1.frozen? ⟨XR, 1, none⟩ = false := heap_frozen hhXR 1
    have dXR2 : w1.cell? ⟨XR, 2, none⟩ = some (.slice none 0 0) := (heap_cell hhXR 2).trans rfl
    have fXR2 : w1.frozen? ⟨XR, 2, none⟩ = false := heap_frozen hhXR 2
    clear hhXR
    clear hw1 g2
    go_wp2
    obtain ⟨kb, kp, kh⟩ := finAll (vs := [.bool (decide (R1.num < 0)), .slice pr1 kr1 cr1, .slice qr1 jr1 dr1]) (HBW6.out.trans HB3.out) HHXR.out rfl HGEXR.out (Φ := fun W2 => RC W2 (.agg #[.bool (decide (R1.num < 0)), .slice pr1 kr1 cr1, .slice qr1 jr1 dr1]) R1) (fun W2 ho => HV.out.only ho HHXR.out (noInt_rat _ _ _ _ _ _ _))
    have kk0 : (setAll w1 XR 0 [.bool (decide (R1.num < 0)), .slice pr1 kr1 cr1, .slice qr1 jr1 dr1]).cell? ⟨XR, 0, none⟩ = some (.bool (decide (R1.num < 0))) := (heap_cell kh 0).trans rfl
    have kk1 : (setAll w1 XR 0 [.bool (decide (R1.num < 0)), .slice pr1 kr1 cr1, .slice qr1 jr1 dr1]).cell? ⟨XR, 1, none⟩ = some (.slice pr1 kr1 cr1) := (heap_cell kh 1).trans rfl
    have kk2 : (setAll w1 XR 0 [.bool (decide (R1.num < 0)), .slice pr1 kr1 cr1, .slice qr1 jr1 dr1]).cell? ⟨XR, 2, none⟩ = some (.slice qr1 jr1 dr1) := (heap_cell kh 2).trans rfl
    simp only [setAll] at kb kp kk0 kk1 kk2
    exact bodyPost_ret (v := .agg #[.bool (decide (R1.num < 0)), .slice pr1 kr1 cr1, .slice qr1 jr1 dr1]) (by simp [results, Tryz.results41, go_sem, kk0, kk1, kk2]) rfl ⟨_, rfl, kb, kp⟩
  · rw [if_neg h1]
    have HC0 := Lib.hid h1
    clear h1
    by_cases h2 : 0 < C1
    · rw [if_pos h2]
      have HC1 := Lib.hid h2
      clear h2 HF3 HMX HF1
      obtain ⟨su1, pu1, ku1, cu1, qu1, ju1, du1, su2, pu2, ku2, cu2, qu2, ju2, du2, rfl, hu1, hu2⟩ := hu.parts
      have HPu := Lib.hid hu
      have HPu1 := Lib.hid hu1
      have HPu2 := Lib.hid hu2
      clear hu hu1 hu2
      obtain ⟨sa1, pa1, ka1, ca1, qa1, ja1, da1, sa2, pa2, ka2, ca2, qa2, ja2, da2, rfl, ha1, ha2⟩ := ha.parts
      have HPa := Lib.hid ha
      have HPa1 := Lib.hid ha1
      have HPa2 := Lib.hid ha2
      clear ha ha1 ha2
      obtain ⟨sb1, pb1, kb1, cb1, qb1, jb1, db1, sb2, pb2, kb2, cb2, qb2, jb2, db2, rfl, hb1, hb2⟩ := hb.parts
      have HPb := Lib.hid hb
      have HPb1 := Lib.hid hb1
      have HPb2 := Lib.hid hb2
      clear hb hb1 hb2
      go_enter Tryz.func41, Tryz.ntmps41
      go_upto_region 1 with fail
      obtain ⟨hXu, hXa, hXb, hXR, hbw⟩ := boxes4 w (.cells #[.bool su1, .slice pu1 ku1 cu1, .slice qu1 ju1 du1, .bool su2, .slice pu2 ku2 cu2, .slice qu2 ju2 du2] 28) (.cells #[.bool sa1, .slice pa1 ka1 ca1, .slice qa1 ja1 da1, .bool sa2, .slice pa2 ka2 ca2, .slice qa2 ja2 da2] 28) (.cells #[.bool sb1, .slice pb1 kb1 cb1, .slice qb1 jb1 db1, .bool sb2, .slice pb2 kb2 cb2, .slice qb2 jb2 db2] 28) (.cells #[.bool false, .slice none 0 0, .slice none 0 0] 26)
      obtain ⟨W, hW⟩ : ∃ W, (((w.alloc (.cells #[.bool su1, .slice pu1 ku1 cu1, .slice qu1 ju1 du1, .bool su2, .slice pu2 ku2 cu2, .slice qu2 ju2 du2] 28)).alloc (.cells #[.bool sa1, .slice pa1 ka1 ca1, .slice qa1 ja1 da1, .bool sa2, .slice pa2 ka2 ca2, .slice qa2 ja2 da2] 28)).alloc (.cells #[.bool sb1, .slice pb1 kb1 cb1, .slice qb1 jb1 db1, .bool sb2, .slice pb2 kb2 cb2, .slice qb2 jb2 db2] 28)).alloc (.cells #[.bool false, .slice none 0 0, .slice none 0 0] 26) = W := ⟨_, rfl⟩
      rw [hW] at hXu hXa hXb hXR hbw ⊢
      obtain ⟨Xu, eXu⟩ : ∃ X, w.heap.size = X := ⟨_, rfl⟩
      obtain ⟨Xa, eXa⟩ : ∃ X, Xu + 1 = X := ⟨_, rfl⟩
      obtain ⟨Xb, eXb⟩ : ∃ X, Xa + 1 = X := ⟨_, rfl⟩
      obtain ⟨XR, eXR⟩ : ∃ X, Xb + 1 = X := ⟨_, rfl⟩
      rw [eXu, eXa, eXb, eXR]
      rw [eXu] at hXu hXa hXb hXR
      rw [eXa] at hXa hXb hXR
      rw [eXb] at hXb hXR
      rw [eXR] at hXR
      have HXu := Lib.hid hXu
      have HXa := Lib.hid hXa
      have HXb := Lib.hid hXb
      have HXR := Lib.hid hXR
      have HBW := Lib.hid hbw
      have HGEXu : Hid (w.heap.size ≤ Xu) := by unfold Hid; omega
      have HGEXa : Hid (w.heap.size ≤ Xa) := by unfold Hid; omega
      have HGEXb : Hid (w.heap.size ≤ Xb) := by unfold Hid; omega
      have HGEXR : Hid (w.heap.size ≤ XR) := by unfold Hid; omega
      have HLT : Hid (Xu < Xa ∧ Xa < Xb ∧ Xb < XR) := by unfold Hid; omega
      clear hW hbw hXu hXa hXb hXR eXu eXa eXb eXR
      refine line_region 3 [[], [], [0, 1]] [.is (.agg #[.bool sb1, .slice pb1 kb1 cb1, .slice qb1 jb1 db1, .bool sb2, .slice pb2 kb2 cb2, .slice qb2 jb2 db2]), .is (.agg #[.bool sa1, .slice pa1 ka1 ca1, .slice qa1 ja1 da1, .bool sa2, .slice pa2 ka2 ca2, .slice qa2 ja2 da2]), .has (fun v w => PC w v D1 D2)] rfl rfl (by decide) (by simp only [Steady]; exact ⟨fun _ _ _ h hb => h.bel hb, trivial⟩) ?_
      simp only [List.take_succ_cons, List.take_zero, List.drop_succ_cons, List.drop_zero]
      refine fV (by rfl) (by intro w1 hw1 hk1; obtain ⟨c0, c1, c2, c3, c4, c5⟩ := boxc6 (hw1.heap HXb.out); go_simp) ?_
      simp only [Act.put, sA, sB, sC]
      refine fV (by rfl) (by intro w1 hw1 hk1; obtain ⟨c0, c1, c2, c3, c4, c5⟩ := boxc6 (hw1.heap HXa.out); go_simp) ?_
      simp only [Act.put, sA, sB, sC]
      refine fH (by rfl) (by intro w1 hw1 hk1; exact HSD.out _ (HBW.out.trans hw1)) (by intro; go_simp) (fun v2 => ?_)
      simp only [Act.put, sA, sB, sC]
      intro w1 hw1 hk1
      obtain ⟨g2, -⟩ := hk1
      obtain ⟨pd1, kd1, cd1, qd1, jd1, dd1, pd2, kd2, cd2, qd2, jd2, dd2, rfl, -, -⟩ := g2.slice
      have HGd0 := Lib.hid g2
      have HB0 := Lib.hid hw1
      clear g2 hw1
      go_upto_region 2 with fail
      obtain ⟨r1, bb5⟩ := boxes1 w1 (.cells #[.bool (decide (D1.num < 0)), .slice pd1 kd1 cd1, .slice qd1 jd1 dd1, .bool (decide (D2.num < 0)), .slice pd2 kd2 cd2, .slice qd2 jd2 dd2] 28 (0, 0))
      obtain ⟨Xd, hXd⟩ : ∃ X, w1.heap.size = X := ⟨_, rfl⟩
      rw [hXd] at r1 ⊢
      obtain ⟨W6, hW6⟩ : ∃ W', w1.alloc (.cells #[.bool (decide (D1.num < 0)), .slice pd1 kd1 cd1, .slice qd1 jd1 dd1, .bool (decide (D2.num < 0)), .slice pd2 kd2 cd2, .slice qd2 jd2 dd2] 28 (0, 0)) = W' := ⟨_, rfl⟩
      rw [hW6] at r1 bb5 ⊢
      have HXd := Lib.hid r1
      have HGd := Lib.hid (HGd0.out.bel bb5)
      have HBW6 := Lib.hid (HBW.out.trans (HB0.out.trans bb5))
      have hkR := HB0.out.trans bb5 |>.heap HXR.out
      clear HXR
      have HXR := Lib.hid hkR
      clear hkR
      have hku := HB0.out.trans bb5 |>.heap HXu.out
      clear HXu
      have HXu := Lib.hid hku
      clear hku
      have hka := HB0.out.trans bb5 |>.heap HXa.out
      clear HXa
      have HXa := Lib.hid hka
      clear hka
      have hkb := HB0.out.trans bb5 |>.heap HXb.out
      clear HXb
      have HXb := Lib.hid hkb
      clear hkb
      clear r1 bb5 hXd hW6 HGd0 HB0
      refine region_flow_hole 13 11 _ [[], [], [0, 1], [], [2, 3], [], [], [5, 6], [4, 7], [8], [9], [9], []] [.is (.agg #[.bool su1, .slice pu1 ku1 cu1, .slice qu1 ju1 du1, .bool su2, .slice pu2 ku2 cu2, .slice qu2 ju2 du2]), .is (.agg #[.bool sa1, .slice pa1 ka1 ca1, .slice qa1 ja1 da1, .bool sa2, .slice pa2 ka2 ca2, .slice qa2 ja2 da2]), .has (fun v w => PC w v E1 E2), .is (.agg #[.bool (decide (D1.num < 0)), .slice pd1 kd1 cd1, .slice qd1 jd1 dd1, .bool (decide (D2.num < 0)), .slice pd2 kd2 cd2, .slice qd2 jd2 dd2]), .has (fun v w => RC w v N), .is (.agg #[.bool (decide (D1.num < 0)), .slice pd1 kd1 cd1, .slice qd1 jd1 dd1, .bool (decide (D2.num < 0)), .slice pd2 kd2 cd2, .slice qd2 jd2 dd2]), .is (.agg #[.bool (decide (D1.num < 0)), .slice pd1 kd1 cd1, .slice qd1 jd1 dd1, .bool (decide (D2.num < 0)), .slice pd2 kd2 cd2, .slice qd2 jd2 dd2]), .has (fun v w => RC w v DD), .has (fun v w => ∃ u, v = .tuple #[u, .int .i64 0] ∧ RC w u T), .has (fun v w => ∃ u, v = .tuple #[u, .int .i64 0] ∧ RC w u T), .has (fun v w => RC w v T), .is (.int .i64 0), .has (fun v w => ∃ X, v = .pointer (some ⟨X, 0, none⟩) ∧ W6.heap.size ≤ X ∧ w.heap[X]? = some (.cells #[.bool false, .slice none 0 0, .slice none 0 0] 26 (0, 0)))] (by kernel_rfl) (by kernel_rfl) rfl (by kernel_rfl) (fun _ _ _ _ h => h) (fun a w c h w' => extract_pure rfl a w c h w') ⟨_, rfl⟩ rfl (by simp only [Steady]; exact ⟨fun _ _ _ h hb => h.bel hb, fun _ _ _ h hb => h.bel hb, fun _ _ _ h hb => h.bel hb, fun _ _ _ h hb => by obtain ⟨u, h1, h2⟩ := h; exact ⟨u, h1, h2.bel hb⟩, fun _ _ _ h hb => by obtain ⟨u, h1, h2⟩ := h; exact ⟨u, h1, h2.bel hb⟩, fun _ _ _ h hb => h.bel hb, fun _ _ _ h hb => by obtain ⟨X, h1, h2, h3⟩ := h; exact ⟨X, h1, h2, hb.heap h3⟩, trivial⟩) ?_
      simp only [List.take_succ_cons, List.take_zero, List.drop_succ_cons, List.drop_zero]
      refine fV (by rfl) (by intro w1 hw1 hk1; obtain ⟨c0, c1, c2, c3, c4, c5⟩ := boxc6 (hw1.heap HXu.out); go_simp) ?_
      simp only [Act.put, sA, sB, sC]
      refine fV (by rfl) (by intro w1 hw1 hk1; obtain ⟨c0, c1, c2, c3, c4, c5⟩ := boxc6 (hw1.heap HXa.out); go_simp) ?_
      simp only [Act.put, sA, sB, sC]
      refine fH (by rfl) (by intro w1 hw1 hk1; exact HSE.out _ (HBW6.out.trans hw1)) (by intro; go_simp) (fun v2 => ?_)
      simp only [Act.put, sA, sB, sC]
      refine fV (by rfl) (by intro w1 hw1 hk1; obtain ⟨c0, c1, c2, c3, c4, c5⟩ := boxc6 (hw1.heap HXd.out); go_simp) ?_
      simp only [Act.put, sA, sB, sC]
      refine fH (by rfl) (by intro w1 hw1 hk1; obtain ⟨g2, -⟩ := hk1; exact HDN.out _ _ _ g2 (HGd.out.bel hw1)) (by intro; go_simp) (fun v4 => ?_)
      simp only [Act.put, sA, sB, sC]
      refine fV (by rfl) (by intro w1 hw1 hk1; obtain ⟨c0, c1, c2, c3, c4, c5⟩ := boxc6 (hw1.heap HXd.out); go_simp) ?_
      simp only [Act.put, sA, sB, sC]
      refine fV (by rfl) (by intro w1 hw1 hk1; obtain ⟨c0, c1, c2, c3, c4, c5⟩ := boxc6 (hw1.heap HXd.out); go_simp) ?_
      simp only [Act.put, sA, sB, sC]
      refine fH (by rfl) (by intro w1 hw1 hk1; exact HDD.out _ _ (HGd.out.bel hw1)) (by intro; go_simp) (fun v7 => ?_)
      simp only [Act.put, sA, sB, sC]
      refine fH (by rfl) (by intro w1 hw1 hk1; obtain ⟨g7, g4, -, -⟩ := hk1; exact HDV.out _ _ _ g4 g7) (by intro; go_simp) (fun v8 => ?_)
      simp only [Act.put, sA, sB, sC]
      refine flow_has (by intro w1 hw1 hk1; obtain ⟨g8, -, -, -, -⟩ := hk1; obtain ⟨u, rfl, h⟩ := g8; refine want (by rfl) (gives_of (c := .tuple #[u, .int .i64 0]) (by go_simp) ?_); exact ⟨u, rfl, h⟩) (fun v9 => ?_)
      simp only [Act.put, sA, sB, sC]
      refine flow_has (by intro w1 hw1 hk1; obtain ⟨g9, -, -, -, -, -⟩ := hk1; obtain ⟨u, rfl, h⟩ := g9; refine want (by rfl) (gives_of (c := u) (by go_simp) ?_); exact h) (fun v10 => ?_)
      simp only [Act.put, sA, sB, sC]
      refine flow_is (by intro w1 hw1 hk1; obtain ⟨-, g9, -, -, -, -, -⟩ := hk1; obtain ⟨u, rfl, h⟩ := g9; refine want (by rfl) (gives_val ?_); go_simp) ?_
      simp only [Act.put, sA, sB, sC]
      refine flow_has (by intro w1 hw1 hk1; refine want (by rfl) (gives_new (c := .pointer (some ⟨w1.heap.size, 0, none⟩)) (w' := w1.alloc (.cells #[.bool false, .slice none 0 0, .slice none 0 0] 26 (0, 0))) (by go_simp) ((Bel.refl w1).alloc _) ?_); exact ⟨_, rfl, hw1.size, (boxes1 _ _).1⟩) (fun v12 => ?_)
      simp only [Act.put, sA, sB, sC]
      intro w1 hw1 hk1
      obtain ⟨g12, g10, g9, g8, g7, g4, g2, -⟩ := hk1
      obtain ⟨X8, rfl, hge8, hx8⟩ := g12
      have HX8 := Lib.hid hx8
      have hhX8 := ((Bel.refl w1)).heap HX8.out
      have HHX8 := Lib.hid hhX8
      have dX80 : w1.cell? ⟨X8, 0, none⟩ = some (.bool false) := (heap_cell hhX8 0).trans rfl
      have fX80 : w1.frozen? ⟨X8, 0, none⟩ = false := heap_frozen hhX8 0
      have dX81 : w1.cell? ⟨X8, 1, none⟩ = some (.slice none 0 0) := (heap_cell hhX8 1).trans rfl
      have fX81 : w1.frozen? ⟨X8, 1, none⟩ = false := heap_frozen hhX8 1
      have dX82 : w1.cell? ⟨X8, 2, none⟩ = some (.slice none 0 0) := (heap_cell hhX8 2).trans rfl
      have fX82 : w1.frozen? ⟨X8, 2, none⟩ = false := heap_frozen hhX8 2
      clear hhX8
      obtain ⟨pt1, kt1, ct1, qt1, jt1, dt1, rfl, -, -⟩ := g10.slice
      have HT := Lib.hid g10
      have HB0 := Lib.hid hw1
      have HGE8 := Lib.hid hge8
      clear hw1 hx8 hge8 g7 g4 g2 g8 g9 g10
      go_upto_region 3 with fail
      obtain ⟨W9, hW9⟩ : ∃ W', ((w1.setCell ⟨X8, 0, none⟩ (.bool (decide (T.num < 0)))).setCell ⟨X8, 1, none⟩ (.slice pt1 kt1 ct1)).setCell ⟨X8, 2, none⟩ (.slice qt1 jt1 dt1) = W' := ⟨_, rfl⟩
      rw [hW9]
      obtain ⟨r1, r2, r3, r4⟩ := rstore_one HX8.out (noInt_rat _ _ _ _ _ _ _) HT.out (HBW6.out.trans HB0.out) (Nat.le_trans HBW6.out.size HGE8.out) hW9.symm
      have hkR := (r4 XR (by have := heap_lt HXR.out; have := HGE8.out; omega)).trans (HB0.out.heap HXR.out)
      have hku := (r4 Xu (by have := heap_lt HXu.out; have := HGE8.out; omega)).trans (HB0.out.heap HXu.out)
      have hka := (r4 Xa (by have := heap_lt HXa.out; have := HGE8.out; omega)).trans (HB0.out.heap HXa.out)
      have hkb := (r4 Xb (by have := heap_lt HXb.out; have := HGE8.out; omega)).trans (HB0.out.heap HXb.out)
      clear HXR HXu HXa HXb HX8 HHX8 HBW6 HXd HGd r4 hW9 HB0 HGE8 dX80 dX81 dX82 fX80 fX81 fX82 HT
      have HXR := Lib.hid hkR
      clear hkR
      have HXu := Lib.hid hku
      clear hku
      have HXa := Lib.hid hka
      clear hka
      have HXb := Lib.hid hkb
      clear hkb
      have HX8 := Lib.hid r1
      have HBW6 := Lib.hid r3
      have HT := Lib.hid r2
      clear r1 r3 r2
      refine line_region 7 [[], [0], [1], [2], [2, 3], [2, 4], [2, 5]] [.is (.int .i64 0), .is (.bool false), .is (.bool false), .is (.agg #[.bool (decide (T.num < 0)), .slice pt1 kt1 ct1, .slice qt1 jt1 dt1]), .is (.int .i64 C0), .is (.bool false), .is (.bool false)] rfl rfl (by decide) (by simp only [Steady]) ?_
      simp only [List.take_succ_cons, List.take_zero, List.drop_succ_cons, List.drop_zero]
      refine fV (by rfl) (by intro w1 hw1 hk1; go_simp) ?_
      simp only [Act.put, sA, sB, sC]
      refine fV (by rfl) (by intro w1 hw1 hk1; go_simp) ?_
      simp only [Act.put, sA, sB, sC]
      refine fV (by rfl) (by intro w1 hw1 hk1; go_simp) ?_
      simp only [Act.put, sA, sB, sC]
      refine fV (by rfl) (by intro w1 hw1 hk1; obtain ⟨c0, c1, c2⟩ := boxc3 (hw1.heap HX8.out); go_simp) ?_
      simp only [Act.put, sA, sB, sC]
      refine fC (by rfl) (by intro w1 hw1 hk1; exact HSG.out _ _ (HT.out.bel hw1)) (by intro; go_simp) ?_
      simp only [Act.put, sA, sB, sC]
      refine flow_is (by intro w1 hw1 hk1; refine want (by rfl) (gives_val ?_); go_simp; (first | (have := HC0.out; omega) | simp [HC0.out])) ?_
      simp only [Act.put, sA, sB, sC]
      refine fV (by rfl) (by intro w1 hw1 hk1; go_simp) ?_
      simp only [Act.put, sA, sB, sC]
      intro w1 hw1 hk1
      have hkR := hw1.heap HXR.out
      clear HXR
      have HXR := Lib.hid hkR
      clear hkR
      have hku := hw1.heap HXu.out
      clear HXu
      have HXu := Lib.hid hku
      clear hku
      have hka := hw1.heap HXa.out
      clear HXa
      have HXa := Lib.hid hka
      clear hka
      have hkb := hw1.heap HXb.out
      clear HXb
      have HXb := Lib.hid hkb
      clear hkb
      have hk8 := hw1.heap HX8.out
      clear HX8
      have HX8 := Lib.hid hk8
      clear hk8
      have hkHT := HT.out.bel hw1
      clear HT
      have HT := Lib.hid hkHT
      clear hkHT
      have hkB := HBW6.out.trans hw1
      clear HBW6
      have HBW6 := Lib.hid hkB
      clear hkB hw1
      go_upto_region 5 with fail
      refine region_flow 4 [[], [], [0, 1], [2]] [.is (.agg #[.bool (decide (T.num < 0)), .slice pt1 kt1 ct1, .slice qt1 jt1 dt1]), .has (fun v w => RC w v 1), .is (.int .i64 C1), .is (.bool true)] (by kernel_rfl) (by kernel_rfl) rfl (by simp only [Steady]; exact ⟨fun _ _ _ h hb => h.bel hb, trivial⟩) ?_
      simp only [List.take_succ_cons, List.take_zero, List.drop_succ_cons, List.drop_zero]
      refine fV (by rfl) (by intro w1 hw1 hk1; obtain ⟨c0, c1, c2⟩ := boxc3 (hw1.heap HX8.out); go_simp) ?_
      simp only [Act.put, sA, sB, sC]
      refine fH (by rfl) (by intro w1 hw1 hk1; exact HOF.out _) (by intro; go_simp) (fun v1 => ?_)
      simp only [Act.put, sA, sB, sC]
      refine fC (by rfl) (by intro w1 hw1 hk1; obtain ⟨g1, -⟩ := hk1; exact HCM.out _ _ _ (HT.out.bel hw1) g1) (by intro; go_simp) ?_
      simp only [Act.put, sA, sB, sC]
      refine flow_is (by intro w1 hw1 hk1; refine want (by rfl) (gives_val ?_); go_simp; (first | (have := HC1.out; omega) | simp [HC1.out])) ?_
      simp only [Act.put, sA, sB, sC]
      intro w1 hw1 hk1
      obtain ⟨g1, -⟩ := hk1
      clear g1
      have hkR := hw1.heap HXR.out
      clear HXR
      have HXR := Lib.hid hkR
      clear hkR
      have hku := hw1.heap HXu.out
      clear HXu
      have HXu := Lib.hid hku
      clear hku
      have hka := hw1.heap HXa.out
      clear HXa
      have HXa := Lib.hid hka
      clear hka
      have hkb := hw1.heap HXb.out
      clear HXb
      have HXb := Lib.hid hkb
      clear hkb
      have hk8 := hw1.heap HX8.out
      clear HX8
      have HX8 := Lib.hid hk8
      clear hk8
      have hkHT := HT.out.bel hw1
      clear HT
      have HT := Lib.hid hkHT
      clear hkHT
      have hkB := HBW6.out.trans hw1
      clear HBW6
      have HBW6 := Lib.hid hkB
      clear hkB hw1
      go_upto_region 6 with fail
      refine line_region 3 [[], [], [0, 1]] [.is (.agg #[.bool su1, .slice pu1 ku1 cu1, .slice qu1 ju1 du1, .bool su2, .slice pu2 ku2 cu2, .slice qu2 ju2 du2]), .is (.agg #[.bool sb1, .slice pb1 kb1 cb1, .slice qb1 jb1 db1, .bool sb2, .slice pb2 kb2 cb2, .slice qb2 jb2 db2]), .has (fun v w => RC w v R2)] rfl rfl (by decide) (by simp only [Steady]; exact ⟨fun _ _ _ h hb => h.bel hb, trivial⟩) ?_
      simp only [List.take_succ_cons, List.take_zero, List.drop_succ_cons, List.drop_zero]
      refine fV (by rfl) (by intro w1 hw1 hk1; obtain ⟨c0, c1, c2, c3, c4, c5⟩ := boxc6 (hw1.heap HXu.out); go_simp) ?_
      simp only [Act.put, sA, sB, sC]
      refine fV (by rfl) (by intro w1 hw1 hk1; obtain ⟨c0, c1, c2, c3, c4, c5⟩ := boxc6 (hw1.heap HXb.out); go_simp) ?_
      simp only [Act.put, sA, sB, sC]
      refine fH (by rfl) (by intro w1 hw1 hk1; exact HF2.out _ (HBW6.out.trans hw1)) (by intro; go_simp) (fun v2 => ?_)
      simp only [Act.put, sA, sB, sC]
      intro w1 hw1 hk1
      obtain ⟨g2, -⟩ := hk1
      obtain ⟨pr1, kr1, cr1, qr1, jr1, dr1, rfl, -, -⟩ := g2.slice
      have HV := Lib.hid g2
      have HB3 := Lib.hid hw1
      have hhXR := (HB3.out).heap HXR.out
      have HHXR := Lib.hid hhXR
      have dXR0 : w1.cell? ⟨XR, 0, none⟩ = some (.bool false) := (heap_cell hhXR 0).trans rfl
      have fXR0 : w1.frozen? ⟨XR, 0, none⟩ = false := heap_frozen hhXR 0
      have dXR1 : w1.cell? ⟨XR, 1, none⟩ = some (.slice none 0 0) := (heap_cell hhXR 1).trans rfl
      have fXR1 : w1.frozen? ⟨XR, 1, none⟩ = false := heap_frozen hhXR 1
      have dXR2 : w1.cell? ⟨XR, 2, none⟩ = some (.slice none 0 0) := (heap_cell hhXR 2).trans rfl
      have fXR2 : w1.frozen? ⟨XR, 2, none⟩ = false := heap_frozen hhXR 2
      clear hhXR
      clear hw1 g2
      go_wp2
      obtain ⟨kb, kp, kh⟩ := finAll (vs := [.bool (decide (R2.num < 0)), .slice pr1 kr1 cr1, .slice qr1 jr1 dr1]) (HBW6.out.trans HB3.out) HHXR.out rfl HGEXR.out (Φ := fun W2 => RC W2 (.agg #[.bool (decide (R2.num < 0)), .slice pr1 kr1 cr1, .slice qr1 jr1 dr1]) R2) (fun W2 ho => HV.out.only ho HHXR.out (noInt_rat _ _ _ _ _ _ _))
      have kk0 : (setAll w1 XR 0 [.bool (decide (R2.num < 0)), .slice pr1 kr1 cr1, .slice qr1 jr1 dr1]).cell? ⟨XR, 0, none⟩ = some (.bool (decide (R2.num < 0))) := (heap_cell kh 0).trans rfl
      have kk1 : (setAll w1 XR 0 [.bool (decide (R2.num < 0)), .slice pr1 kr1 cr1, .slice qr1 jr1 dr1]).cell? ⟨XR, 1, none⟩ = some (.slice pr1 kr1 cr1) := (heap_cell kh 1).trans rfl
      have kk2 : (setAll w1 XR 0 [.bool (decide (R2.num < 0)), .slice pr1 kr1 cr1, .slice qr1 jr1 dr1]).cell? ⟨XR, 2, none⟩ = some (.slice qr1 jr1 dr1) := (heap_cell kh 2).trans rfl
      simp only [setAll] at kb kp kk0 kk1 kk2
      exact bodyPost_ret (v := .agg #[.bool (decide (R2.num < 0)), .slice pr1 kr1 cr1, .slice qr1 jr1 dr1]) (by simp [results, Tryz.results41, go_sem, kk0, kk1, kk2]) rfl ⟨_, rfl, kb, kp⟩
    · rw [if_neg h2]
      have HC1 := Lib.hid h2
      clear h2 HF1 HF2
      obtain ⟨su1, pu1, ku1, cu1, qu1, ju1, du1, su2, pu2, ku2, cu2, qu2, ju2, du2, rfl, hu1, hu2⟩ := hu.parts
      have HPu := Lib.hid hu
      have HPu1 := Lib.hid hu1
      have HPu2 := Lib.hid hu2
      clear hu hu1 hu2
      obtain ⟨sa1, pa1, ka1, ca1, qa1, ja1, da1, sa2, pa2, ka2, ca2, qa2, ja2, da2, rfl, ha1, ha2⟩ := ha.parts
      have HPa := Lib.hid ha
      have HPa1 := Lib.hid ha1
      have HPa2 := Lib.hid ha2
      clear ha ha1 ha2
      obtain ⟨sb1, pb1, kb1, cb1, qb1, jb1, db1, sb2, pb2, kb2, cb2, qb2, jb2, db2, rfl, hb1, hb2⟩ := hb.parts
      have HPb := Lib.hid hb
      have HPb1 := Lib.hid hb1
      have HPb2 := Lib.hid hb2
      clear hb hb1 hb2
      go_enter Tryz.func41, Tryz.ntmps41
      go_upto_region 1 with fail
      obtain ⟨hXu, hXa, hXb, hXR, hbw⟩ := boxes4 w (.cells #[.bool su1, .slice pu1 ku1 cu1, .slice qu1 ju1 du1, .bool su2, .slice pu2 ku2 cu2, .slice qu2 ju2 du2] 28) (.cells #[.bool sa1, .slice pa1 ka1 ca1, .slice qa1 ja1 da1, .bool sa2, .slice pa2 ka2 ca2, .slice qa2 ja2 da2] 28) (.cells #[.bool sb1, .slice pb1 kb1 cb1, .slice qb1 jb1 db1, .bool sb2, .slice pb2 kb2 cb2, .slice qb2 jb2 db2] 28) (.cells #[.bool false, .slice none 0 0, .slice none 0 0] 26)
      obtain ⟨W, hW⟩ : ∃ W, (((w.alloc (.cells #[.bool su1, .slice pu1 ku1 cu1, .slice qu1 ju1 du1, .bool su2, .slice pu2 ku2 cu2, .slice qu2 ju2 du2] 28)).alloc (.cells #[.bool sa1, .slice pa1 ka1 ca1, .slice qa1 ja1 da1, .bool sa2, .slice pa2 ka2 ca2, .slice qa2 ja2 da2] 28)).alloc (.cells #[.bool sb1, .slice pb1 kb1 cb1, .slice qb1 jb1 db1, .bool sb2, .slice pb2 kb2 cb2, .slice qb2 jb2 db2] 28)).alloc (.cells #[.bool false, .slice none 0 0, .slice none 0 0] 26) = W := ⟨_, rfl⟩
      rw [hW] at hXu hXa hXb hXR hbw ⊢
      obtain ⟨Xu, eXu⟩ : ∃ X, w.heap.size = X := ⟨_, rfl⟩
      obtain ⟨Xa, eXa⟩ : ∃ X, Xu + 1 = X := ⟨_, rfl⟩
      obtain ⟨Xb, eXb⟩ : ∃ X, Xa + 1 = X := ⟨_, rfl⟩
      obtain ⟨XR, eXR⟩ : ∃ X, Xb + 1 = X := ⟨_, rfl⟩
      rw [eXu, eXa, eXb, eXR]
      rw [eXu] at hXu hXa hXb hXR
      rw [eXa] at hXa hXb hXR
      rw [eXb] at hXb hXR
      rw [eXR] at hXR
      have HXu := Lib.hid hXu
      have HXa := Lib.hid hXa
      have HXb := Lib.hid hXb
      have HXR := Lib.hid hXR
      have HBW := Lib.hid hbw
      have HGEXu : Hid (w.heap.size ≤ Xu) := by unfold Hid; omega
      have HGEXa : Hid (w.heap.size ≤ Xa) := by unfold Hid; omega
      have HGEXb : Hid (w.heap.size ≤ Xb) := by unfold Hid; omega
      have HGEXR : Hid (w.heap.size ≤ XR) := by unfold Hid; omega
      have HLT : Hid (Xu < Xa ∧ Xa < Xb ∧ Xb < XR) := by unfold Hid; omega
      clear hW hbw hXu hXa hXb hXR eXu eXa eXb eXR
      refine line_region 3 [[], [], [0, 1]] [.is (.agg #[.bool sb1, .slice pb1 kb1 cb1, .slice qb1 jb1 db1, .bool sb2, .slice pb2 kb2 cb2, .slice qb2 jb2 db2]), .is (.agg #[.bool sa1, .slice pa1 ka1 ca1, .slice qa1 ja1 da1, .bool sa2, .slice pa2 ka2 ca2, .slice qa2 ja2 da2]), .has (fun v w => PC w v D1 D2)] rfl rfl (by decide) (by simp only [Steady]; exact ⟨fun _ _ _ h hb => h.bel hb, trivial⟩) ?_
      simp only [List.take_succ_cons, List.take_zero, List.drop_succ_cons, List.drop_zero]
      refine fV (by rfl) (by intro w1 hw1 hk1; obtain ⟨c0, c1, c2, c3, c4, c5⟩ := boxc6 (hw1.heap HXb.out); go_simp) ?_
      simp only [Act.put, sA, sB, sC]
      refine fV (by rfl) (by intro w1 hw1 hk1; obtain ⟨c0, c1, c2, c3, c4, c5⟩ := boxc6 (hw1.heap HXa.out); go_simp) ?_
      simp only [Act.put, sA, sB, sC]
      refine fH (by rfl) (by intro w1 hw1 hk1; exact HSD.out _ (HBW.out.trans hw1)) (by intro; go_simp) (fun v2 => ?_)
      simp only [Act.put, sA, sB, sC]
      intro w1 hw1 hk1
      obtain ⟨g2, -⟩ := hk1
      obtain ⟨pd1, kd1, cd1, qd1, jd1, dd1, pd2, kd2, cd2, qd2, jd2, dd2, rfl, -, -⟩ := g2.slice
      have HGd0 := Lib.hid g2
      have HB0 := Lib.hid hw1
      clear g2 hw1
      go_upto_region 2 with fail
      obtain ⟨r1, bb5⟩ := boxes1 w1 (.cells #[.bool (decide (D1.num < 0)), .slice pd1 kd1 cd1, .slice qd1 jd1 dd1, .bool (decide (D2.num < 0)), .slice pd2 kd2 cd2, .slice qd2 jd2 dd2] 28 (0, 0))
      obtain ⟨Xd, hXd⟩ : ∃ X, w1.heap.size = X := ⟨_, rfl⟩
      rw [hXd] at r1 ⊢
      obtain ⟨W6, hW6⟩ : ∃ W', w1.alloc (.cells #[.bool (decide (D1.num < 0)), .slice pd1 kd1 cd1, .slice qd1 jd1 dd1, .bool (decide (D2.num < 0)), .slice pd2 kd2 cd2, .slice qd2 jd2 dd2] 28 (0, 0)) = W' := ⟨_, rfl⟩
      rw [hW6] at r1 bb5 ⊢
      have HXd := Lib.hid r1
      have HGd := Lib.hid (HGd0.out.bel bb5)
      have HBW6 := Lib.hid (HBW.out.trans (HB0.out.trans bb5))
      have hkR := HB0.out.trans bb5 |>.heap HXR.out
      clear HXR
      have HXR := Lib.hid hkR
      clear hkR
      have hku := HB0.out.trans bb5 |>.heap HXu.out
      clear HXu
      have HXu := Lib.hid hku
      clear hku
      have hka := HB0.out.trans bb5 |>.heap HXa.out
      clear HXa
      have HXa := Lib.hid hka
      clear hka
      have hkb := HB0.out.trans bb5 |>.heap HXb.out
      clear HXb
      have HXb := Lib.hid hkb
      clear hkb
      clear r1 bb5 hXd hW6 HGd0 HB0
      refine region_flow_hole 13 11 _ [[], [], [0, 1], [], [2, 3], [], [], [5, 6], [4, 7], [8], [9], [9], []] [.is (.agg #[.bool su1, .slice pu1 ku1 cu1, .slice qu1 ju1 du1, .bool su2, .slice pu2 ku2 cu2, .slice qu2 ju2 du2]), .is (.agg #[.bool sa1, .slice pa1 ka1 ca1, .slice qa1 ja1 da1, .bool sa2, .slice pa2 ka2 ca2, .slice qa2 ja2 da2]), .has (fun v w => PC w v E1 E2), .is (.agg #[.bool (decide (D1.num < 0)), .slice pd1 kd1 cd1, .slice qd1 jd1 dd1, .bool (decide (D2.num < 0)), .slice pd2 kd2 cd2, .slice qd2 jd2 dd2]), .has (fun v w => RC w v N), .is (.agg #[.bool (decide (D1.num < 0)), .slice pd1 kd1 cd1, .slice qd1 jd1 dd1, .bool (decide (D2.num < 0)), .slice pd2 kd2 cd2, .slice qd2 jd2 dd2]), .is (.agg #[.bool (decide (D1.num < 0)), .slice pd1 kd1 cd1, .slice qd1 jd1 dd1, .bool (decide (D2.num < 0)), .slice pd2 kd2 cd2, .slice qd2 jd2 dd2]), .has (fun v w => RC w v DD), .has (fun v w => ∃ u, v = .tuple #[u, .int .i64 0] ∧ RC w u T), .has (fun v w => ∃ u, v = .tuple #[u, .int .i64 0] ∧ RC w u T), .has (fun v w => RC w v T), .is (.int .i64 0), .has (fun v w => ∃ X, v = .pointer (some ⟨X, 0, none⟩) ∧ W6.heap.size ≤ X ∧ w.heap[X]? = some (.cells #[.bool false, .slice none 0 0, .slice none 0 0] 26 (0, 0)))] (by kernel_rfl) (by kernel_rfl) rfl (by kernel_rfl) (fun _ _ _ _ h => h) (fun a w c h w' => extract_pure rfl a w c h w') ⟨_, rfl⟩ rfl (by simp only [Steady]; exact ⟨fun _ _ _ h hb => h.bel hb, fun _ _ _ h hb => h.bel hb, fun _ _ _ h hb => h.bel hb, fun _ _ _ h hb => by obtain ⟨u, h1, h2⟩ := h; exact ⟨u, h1, h2.bel hb⟩, fun _ _ _ h hb => by obtain ⟨u, h1, h2⟩ := h; exact ⟨u, h1, h2.bel hb⟩, fun _ _ _ h hb => h.bel hb, fun _ _ _ h hb => by obtain ⟨X, h1, h2, h3⟩ := h; exact ⟨X, h1, h2, hb.heap h3⟩, trivial⟩) ?_
      simp only [List.take_succ_cons, List.take_zero, List.drop_succ_cons, List.drop_zero]
      refine fV (by rfl) (by intro w1 hw1 hk1; obtain ⟨c0, c1, c2, c3, c4, c5⟩ := boxc6 (hw1.heap HXu.out); go_simp) ?_
      simp only [Act.put, sA, sB, sC]
      refine fV (by rfl) (by intro w1 hw1 hk1; obtain ⟨c0, c1, c2, c3, c4, c5⟩ := boxc6 (hw1.heap HXa.out); go_simp) ?_
      simp only [Act.put, sA, sB, sC]
      refine fH (by rfl) (by intro w1 hw1 hk1; exact HSE.out _ (HBW6.out.trans hw1)) (by intro; go_simp) (fun v2 => ?_)
      simp only [Act.put, sA, sB, sC]
      refine fV (by rfl) (by intro w1 hw1 hk1; obtain ⟨c0, c1, c2, c3, c4, c5⟩ := boxc6 (hw1.heap HXd.out); go_simp) ?_
      simp only [Act.put, sA, sB, sC]
      refine fH (by rfl) (by intro w1 hw1 hk1; obtain ⟨g2, -⟩ := hk1; exact HDN.out _ _ _ g2 (HGd.out.bel hw1)) (by intro; go_simp) (fun v4 => ?_)
      simp only [Act.put, sA, sB, sC]
      refine fV (by rfl) (by intro w1 hw1 hk1; obtain ⟨c0, c1, c2, c3, c4, c5⟩ := boxc6 (hw1.heap HXd.out); go_simp) ?_
      simp only [Act.put, sA, sB, sC]
      refine fV (by rfl) (by intro w1 hw1 hk1; obtain ⟨c0, c1, c2, c3, c4, c5⟩ := boxc6 (hw1.heap HXd.out); go_simp) ?_
      simp only [Act.put, sA, sB, sC]
      refine fH (by rfl) (by intro w1 hw1 hk1; exact HDD.out _ _ (HGd.out.bel hw1)) (by intro; go_simp) (fun v7 => ?_)
      simp only [Act.put, sA, sB, sC]
      refine fH (by rfl) (by intro w1 hw1 hk1; obtain ⟨g7, g4, -, -⟩ := hk1; exact HDV.out _ _ _ g4 g7) (by intro; go_simp) (fun v8 => ?_)
      simp only [Act.put, sA, sB, sC]
      refine flow_has (by intro w1 hw1 hk1; obtain ⟨g8, -, -, -, -⟩ := hk1; obtain ⟨u, rfl, h⟩ := g8; refine want (by rfl) (gives_of (c := .tuple #[u, .int .i64 0]) (by go_simp) ?_); exact ⟨u, rfl, h⟩) (fun v9 => ?_)
      simp only [Act.put, sA, sB, sC]
      refine flow_has (by intro w1 hw1 hk1; obtain ⟨g9, -, -, -, -, -⟩ := hk1; obtain ⟨u, rfl, h⟩ := g9; refine want (by rfl) (gives_of (c := u) (by go_simp) ?_); exact h) (fun v10 => ?_)
      simp only [Act.put, sA, sB, sC]
      refine flow_is (by intro w1 hw1 hk1; obtain ⟨-, g9, -, -, -, -, -⟩ := hk1; obtain ⟨u, rfl, h⟩ := g9; refine want (by rfl) (gives_val ?_); go_simp) ?_
      simp only [Act.put, sA, sB, sC]
      refine flow_has (by intro w1 hw1 hk1; refine want (by rfl) (gives_new (c := .pointer (some ⟨w1.heap.size, 0, none⟩)) (w' := w1.alloc (.cells #[.bool false, .slice none 0 0, .slice none 0 0] 26 (0, 0))) (by go_simp) ((Bel.refl w1).alloc _) ?_); exact ⟨_, rfl, hw1.size, (boxes1 _ _).1⟩) (fun v12 => ?_)
      simp only [Act.put, sA, sB, sC]
      intro w1 hw1 hk1
      obtain ⟨g12, g10, g9, g8, g7, g4, g2, -⟩ := hk1
      obtain ⟨X8, rfl, hge8, hx8⟩ := g12
      have HX8 := Lib.hid hx8
      have hhX8 := ((Bel.refl w1)).heap HX8.out
      have HHX8 := Lib.hid hhX8
      have dX80 : w1.cell? ⟨X8, 0, none⟩ = some (.bool false) := (heap_cell hhX8 0).trans rfl
      have fX80 : w1.frozen? ⟨X8, 0, none⟩ = false := heap_frozen hhX8 0
      have dX81 : w1.cell? ⟨X8, 1, none⟩ = some (.slice none 0 0) := (heap_cell hhX8 1).trans rfl
      have fX81 : w1.frozen? ⟨X8, 1, none⟩ = false := heap_frozen hhX8 1
      have dX82 : w1.cell? ⟨X8, 2, none⟩ = some (.slice none 0 0) := (heap_cell hhX8 2).trans rfl
      have fX82 : w1.frozen? ⟨X8, 2, none⟩ = false := heap_frozen hhX8 2
      clear hhX8
      obtain ⟨pt1, kt1, ct1, qt1, jt1, dt1, rfl, -, -⟩ := g10.slice
      have HT := Lib.hid g10
      have HB0 := Lib.hid hw1
      have HGE8 := Lib.hid hge8
      clear hw1 hx8 hge8 g7 g4 g2 g8 g9 g10
      go_upto_region 3 with fail
      obtain ⟨W9, hW9⟩ : ∃ W', ((w1.setCell ⟨X8, 0, none⟩ (.bool (decide (T.num < 0)))).setCell ⟨X8, 1, none⟩ (.slice pt1 kt1 ct1)).setCell ⟨X8, 2, none⟩ (.slice qt1 jt1 dt1) = W' := ⟨_, rfl⟩
      rw [hW9]
      obtain ⟨r1, r2, r3, r4⟩ := rstore_one HX8.out (noInt_rat _ _ _ _ _ _ _) HT.out (HBW6.out.trans HB0.out) (Nat.le_trans HBW6.out.size HGE8.out) hW9.symm
      have hkR := (r4 XR (by have := heap_lt HXR.out; have := HGE8.out; omega)).trans (HB0.out.heap HXR.out)
      have hku := (r4 Xu (by have := heap_lt HXu.out; have := HGE8.out; omega)).trans (HB0.out.heap HXu.out)
      have hka := (r4 Xa (by have := heap_lt HXa.out; have := HGE8.out; omega)).trans (HB0.out.heap HXa.out)
      have hkb := (r4 Xb (by have := heap_lt HXb.out; have := HGE8.out; omega)).trans (HB0.out.heap HXb.out)
      clear HXR HXu HXa HXb HX8 HHX8 HBW6 HXd HGd r4 hW9 HB0 HGE8 dX80 dX81 dX82 fX80 fX81 fX82 HT
      have HXR := Lib.hid hkR
      clear hkR
      have HXu := Lib.hid hku
      clear hku
      have HXa := Lib.hid hka
      clear hka
      have HXb := Lib.hid hkb
      clear hkb
      have HX8 := Lib.hid r1
      have HBW6 := Lib.hid r3
      have HT := Lib.hid r2
      clear r1 r3 r2
      refine line_region 7 [[], [0], [1], [2], [2, 3], [2, 4], [2, 5]] [.is (.int .i64 0), .is (.bool false), .is (.bool false), .is (.agg #[.bool (decide (T.num < 0)), .slice pt1 kt1 ct1, .slice qt1 jt1 dt1]), .is (.int .i64 C0), .is (.bool false), .is (.bool false)] rfl rfl (by decide) (by simp only [Steady]) ?_
      simp only [List.take_succ_cons, List.take_zero, List.drop_succ_cons, List.drop_zero]
      refine fV (by rfl) (by intro w1 hw1 hk1; go_simp) ?_
      simp only [Act.put, sA, sB, sC]
      refine fV (by rfl) (by intro w1 hw1 hk1; go_simp) ?_
      simp only [Act.put, sA, sB, sC]
      refine fV (by rfl) (by intro w1 hw1 hk1; go_simp) ?_
      simp only [Act.put, sA, sB, sC]
      refine fV (by rfl) (by intro w1 hw1 hk1; obtain ⟨c0, c1, c2⟩ := boxc3 (hw1.heap HX8.out); go_simp) ?_
      simp only [Act.put, sA, sB, sC]
      refine fC (by rfl) (by intro w1 hw1 hk1; exact HSG.out _ _ (HT.out.bel hw1)) (by intro; go_simp) ?_
      simp only [Act.put, sA, sB, sC]
      refine flow_is (by intro w1 hw1 hk1; refine want (by rfl) (gives_val ?_); go_simp; (first | (have := HC0.out; omega) | simp [HC0.out])) ?_
      simp only [Act.put, sA, sB, sC]
      refine fV (by rfl) (by intro w1 hw1 hk1; go_simp) ?_
      simp only [Act.put, sA, sB, sC]
      intro w1 hw1 hk1
      have hkR := hw1.heap HXR.out
      clear HXR
      have HXR := Lib.hid hkR
      clear hkR
      have hku := hw1.heap HXu.out
      clear HXu
      have HXu := Lib.hid hku
      clear hku
      have hka := hw1.heap HXa.out
      clear HXa
      have HXa := Lib.hid hka
      clear hka
      have hkb := hw1.heap HXb.out
      clear HXb
      have HXb := Lib.hid hkb
      clear hkb
      have hk8 := hw1.heap HX8.out
      clear HX8
      have HX8 := Lib.hid hk8
      clear hk8
      have hkHT := HT.out.bel hw1
      clear HT
      have HT := Lib.hid hkHT
      clear hkHT
      have hkB := HBW6.out.trans hw1
      clear HBW6
      have HBW6 := Lib.hid hkB
      clear hkB hw1
      go_upto_region 5 with fail
      refine region_flow 4 [[], [], [0, 1], [2]] [.is (.agg #[.bool (decide (T.num < 0)), .slice pt1 kt1 ct1, .slice qt1 jt1 dt1]), .has (fun v w => RC w v 1), .is (.int .i64 C1), .is (.bool false)] (by kernel_rfl) (by kernel_rfl) rfl (by simp only [Steady]; exact ⟨fun _ _ _ h hb => h.bel hb, trivial⟩) ?_
      simp only [List.take_succ_cons, List.take_zero, List.drop_succ_cons, List.drop_zero]
      refine fV (by rfl) (by intro w1 hw1 hk1; obtain ⟨c0, c1, c2⟩ := boxc3 (hw1.heap HX8.out); go_simp) ?_
      simp only [Act.put, sA, sB, sC]
      refine fH (by rfl) (by intro w1 hw1 hk1; exact HOF.out _) (by intro; go_simp) (fun v1 => ?_)
      simp only [Act.put, sA, sB, sC]
      refine fC (by rfl) (by intro w1 hw1 hk1; obtain ⟨g1, -⟩ := hk1; exact HCM.out _ _ _ (HT.out.bel hw1) g1) (by intro; go_simp) ?_
      simp only [Act.put, sA, sB, sC]
      refine flow_is (by intro w1 hw1 hk1; refine want (by rfl) (gives_val ?_); go_simp; (first | (have := HC1.out; omega) | simp [HC1.out])) ?_
      simp only [Act.put, sA, sB, sC]
      intro w1 hw1 hk1
      obtain ⟨g1, -⟩ := hk1
      clear g1
      have hkR := hw1.heap HXR.out
      clear HXR
      have HXR := Lib.hid hkR
      clear hkR
      have hku := hw1.heap HXu.out
      clear HXu
      have HXu := Lib.hid hku
      clear hku
      have hka := hw1.heap HXa.out
      clear HXa
      have HXa := Lib.hid hka
      clear hka
      have hkb := hw1.heap HXb.out
      clear HXb
      have HXb := Lib.hid hkb
      clear hkb
      have hk8 := hw1.heap HX8.out
      clear HX8
      have HX8 := Lib.hid hk8
      clear hk8
      have hkHT := HT.out.bel hw1
      clear HT
      have HT := Lib.hid hkHT
      clear hkHT
      have hkB := HBW6.out.trans hw1
      clear HBW6
      have HBW6 := Lib.hid hkB
      clear hkB hw1
      go_upto_region 7 with fail
      refine region_flow 6 [[], [], [], [], [1, 2, 3], [0, 4]] [.is (.agg #[.bool su1, .slice pu1 ku1 cu1, .slice qu1 ju1 du1, .bool su2, .slice pu2 ku2 cu2, .slice qu2 ju2 du2]), .is (.agg #[.bool sa1, .slice pa1 ka1 ca1, .slice qa1 ja1 da1, .bool sa2, .slice pa2 ka2 ca2, .slice qa2 ja2 da2]), .is (.agg #[.bool sb1, .slice pb1 kb1 cb1, .slice qb1 jb1 db1, .bool sb2, .slice pb2 kb2 cb2, .slice qb2 jb2 db2]), .is (.agg #[.bool (decide (T.num < 0)), .slice pt1 kt1 ct1, .slice qt1 jt1 dt1]), .has (fun v w => PC w v M1 M2), .has (fun v w => RC w v R3)] (by kernel_rfl) (by kernel_rfl) rfl (by simp only [Steady]; exact ⟨fun _ _ _ h hb => h.bel hb, fun _ _ _ h hb => h.bel hb, trivial⟩) ?_
      simp only [List.take_succ_cons, List.take_zero, List.drop_succ_cons, List.drop_zero]
      refine fV (by rfl) (by intro w1 hw1 hk1; obtain ⟨c0, c1, c2, c3, c4, c5⟩ := boxc6 (hw1.heap HXu.out); go_simp) ?_
      simp only [Act.put, sA, sB, sC]
      refine fV (by rfl) (by intro w1 hw1 hk1; obtain ⟨c0, c1, c2, c3, c4, c5⟩ := boxc6 (hw1.heap HXa.out); go_simp) ?_
      simp only [Act.put, sA, sB, sC]
      refine fV (by rfl) (by intro w1 hw1 hk1; obtain ⟨c0, c1, c2, c3, c4, c5⟩ := boxc6 (hw1.heap HXb.out); go_simp) ?_
      simp only [Act.put, sA, sB, sC]
      refine fV (by rfl) (by intro w1 hw1 hk1; obtain ⟨c0, c1, c2⟩ := boxc3 (hw1.heap HX8.out); go_simp) ?_
      simp only [Act.put, sA, sB, sC]
      refine fH (by rfl) (by intro w1 hw1 hk1; exact HMX.out _ _ (HBW6.out.trans hw1) (HT.out.bel hw1)) (by intro; go_simp) (fun v4 => ?_)
      simp only [Act.put, sA, sB, sC]
      refine fH (by rfl) (by intro w1 hw1 hk1; obtain ⟨g4, -⟩ := hk1; exact HF3.out _ _ (HBW6.out.trans hw1) g4) (by intro; go_simp) (fun v5 => ?_)
      simp only [Act.put, sA, sB, sC]
      intro w1 hw1 hk1
      obtain ⟨g5, g4, -⟩ := hk1
      obtain ⟨pr1, kr1, cr1, qr1, jr1, dr1, rfl, -, -⟩ := g5.slice
      have HV := Lib.hid g5
      have HB3 := Lib.hid hw1
      have hhXR := (HB3.out).heap HXR.out
      have HHXR := Lib.hid hhXR
      have dXR0 : w1.cell? ⟨XR, 0, none⟩ = some (.bool false) := (heap_cell hhXR 0).trans rfl
      have fXR0 : w1.frozen? ⟨XR, 0, none⟩ = false := heap_frozen hhXR 0
      have dXR1 : w1.cell? ⟨XR, 1, none⟩ = some (.slice none 0 0) := (heap_cell hhXR 1).trans rfl
      have fXR1 : w1.frozen? ⟨XR, 1, none⟩ = false := heap_frozen hhXR 1
      have dXR2 : w1.cell? ⟨XR, 2, none⟩ = some (.slice none 0 0) := (heap_cell hhXR 2).trans rfl
      have fXR2 : w1.frozen? ⟨XR, 2, none⟩ = false := heap_frozen hhXR 2
      clear hhXR
      clear hw1 g5 g4
      go_wp2
      obtain ⟨kb, kp, kh⟩ := finAll (vs := [.bool (decide (R3.num < 0)), .slice pr1 kr1 cr1, .slice qr1 jr1 dr1]) (HBW6.out.trans HB3.out) HHXR.out rfl HGEXR.out (Φ := fun W2 => RC W2 (.agg #[.bool (decide (R3.num < 0)), .slice pr1 kr1 cr1, .slice qr1 jr1 dr1]) R3) (fun W2 ho => HV.out.only ho HHXR.out (noInt_rat _ _ _ _ _ _ _))
      have kk0 : (setAll w1 XR 0 [.bool (decide (R3.num < 0)), .slice pr1 kr1 cr1, .slice qr1 jr1 dr1]).cell? ⟨XR, 0, none⟩ = some (.bool (decide (R3.num < 0))) := (heap_cell kh 0).trans rfl
      have kk1 : (setAll w1 XR 0 [.bool (decide (R3.num < 0)), .slice pr1 kr1 cr1, .slice qr1 jr1 dr1]).cell? ⟨XR, 1, none⟩ = some (.slice pr1 kr1 cr1) := (heap_cell kh 1).trans rfl
      have kk2 : (setAll w1 XR 0 [.bool (decide (R3.num < 0)), .slice pr1 kr1 cr1, .slice qr1 jr1 dr1]).cell? ⟨XR, 2, none⟩ = some (.slice qr1 jr1 dr1) := (heap_cell kh 2).trans rfl
      simp only [setAll] at kb kp kk0 kk1 kk2
      exact bodyPost_ret (v := .agg #[.bool (decide (R3.num < 0)), .slice pr1 kr1 cr1, .slice qr1 jr1 dr1]) (by simp [results, Tryz.results41, go_sem, kk0, kk1, kk2]) rfl ⟨_, rfl, kb, kp⟩
theorem mk_toSeg {w : World} {u a b : Value} {px py ax ay bx cy : Rat} {i : Nat} (hu : PS i w u px py) (ha : PS i w a ax ay) (hb : PS i w b bx cy) (hl : 80 * i + 60 < LimK) : Calls Tryz.prog 41 #[u, a, b] w (Makes w fun v w' => RC w' v (segR px py ax ay bx cy)) := by
  by_cases h0 : (bx - ax) * (bx - ax) + (cy - ay) * (cy - ay) = 0
  · exact mk_toSeg0 hu ha hb hl h0
  · exact mk_toSeg1 hu ha hb hl h0
end Go.Proofs.YtafmfnpjhhaikaaGreatDoor
