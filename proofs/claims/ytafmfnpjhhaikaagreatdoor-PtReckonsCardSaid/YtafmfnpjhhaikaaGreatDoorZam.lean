/-
  rat: Sign, Neg, Cmp, Make, Div.
-/
import Derived.Test.YtafmfnpjhhaikaaGreatDoorZal
namespace Go.Proofs.YtafmfnpjhhaikaaGreatDoor
open Go.RowKit Go.Shelf
theorem setAll_box {w w1 : World} {X t : Nat} {cs : Array Value} (h : w1.heap[X]? = some (.cells cs t (0, 0))) (vs : List Value) (hl : cs.size = vs.length) (hb : Bel w w1) (hge : w.heap.size ≤ X) :
    (setAll w1 X 0 vs).heap[X]? = some (.cells vs.toArray t (0, 0)) ∧ OnlyG X w1 (setAll w1 X 0 vs) ∧ Bel w (setAll w1 X 0 vs) := by
  obtain ⟨k1, k2, k3⟩ := finAll hb h hl hge (Φ := fun W2 => OnlyG X w1 W2) (fun _ ho => ho)
  exact ⟨k3, k2, k1⟩
theorem rstore_two {w w1 W : World} {X2 X3 : Nat} {a0 a1 a2 b0 b1 b2 : Value} {s t : Bool} {p p' q q' : Option Addr} {k c k' c' j d j' d' : Nat} {x y : Rat} (h2 : w1.heap[X2]? = some (.cells #[a0, a1, a2] 26 (0, 0))) (h3 : w1.heap[X3]? = some (.cells #[b0, b1, b2] 26 (0, 0)))
    (hne : X2 ≠ X3) (i2 : NoInt .u64 #[a0, a1, a2]) (i3 : NoInt .u64 #[b0, b1, b2]) (hx : RC w1 (.agg #[.bool s, .slice p k c, .slice p' k' c']) x) (hy : RC w1 (.agg #[.bool t, .slice q j d, .slice q' j' d']) y) (hb : Bel w w1) (g2 : w.heap.size ≤ X2) (g3 : w.heap.size ≤ X3)
    (hW : W = (((((w1.setCell ⟨X2, 0, none⟩ (.bool s)).setCell ⟨X2, 1, none⟩ (.slice p k c)).setCell ⟨X2, 2, none⟩ (.slice p' k' c')).setCell ⟨X3, 0, none⟩ (.bool t)).setCell ⟨X3, 1, none⟩ (.slice q j d)).setCell ⟨X3, 2, none⟩ (.slice q' j' d')) :
    W.heap[X2]? = some (.cells #[.bool s, .slice p k c, .slice p' k' c'] 26 (0, 0)) ∧ W.heap[X3]? = some (.cells #[.bool t, .slice q j d, .slice q' j' d'] 26 (0, 0)) ∧ RC W (.agg #[.bool s, .slice p k c, .slice p' k' c']) x ∧ RC W (.agg #[.bool t, .slice q j d, .slice q' j' d']) y ∧ Bel w W ∧
      ∀ r, r ≠ X2 → r ≠ X3 → W.heap[r]? = w1.heap[r]? := by
  obtain ⟨s1, o1, r1⟩ := setAll_box h2 [.bool s, .slice p k c, .slice p' k' c'] rfl hb g2
  obtain ⟨s2, o2, r2⟩ := setAll_box ((o1.2 X3 (Ne.symm hne)).trans h3) [.bool t, .slice q j d, .slice q' j' d'] rfl r1 g3
  have e : W = setAll (setAll w1 X2 0 [.bool s, .slice p k c, .slice p' k' c']) X3 0 [.bool t, .slice q j d, .slice q' j' d'] := hW
  rw [e]
  exact ⟨(o2.2 X2 hne).trans s1, s2, (hx.only o1 h2 i2).only o2 ((o1.2 X3 (Ne.symm hne)).trans h3) i3, (hy.only o1 h2 i2).only o2 ((o1.2 X3 (Ne.symm hne)).trans h3) i3, r2, fun r n2 n3 => (o2.2 r n3).trans (o1.2 r n2)⟩
theorem num_of {w : World} {s : Bool} {u d : Value} {q : Rat} (h : RC w (.agg #[.bool s, u, d]) q) : ZC w (.agg #[.bool s, u]) q.num := by
  obtain ⟨u', d', he, hu, hd⟩ := h
  simp only [Value.agg.injEq, Array.mk.injEq, List.cons.injEq, and_true] at he
  obtain ⟨h1, rfl, rfl⟩ := he
  exact ⟨u, by rw [h1], hu⟩
theorem sgn_of_made {s : Bool} {m n : Nat} {q : Rat} (h : ratOf s m n = q) : sgnN (sgnI s m) = sgnN q.num := by
  subst h
  unfold ratOf
  obtain ⟨h1, h2, h3⟩ := mk_parts (sgnI s m) (q := if n = 0 then 1 else n) (by split <;> omega)
  generalize mkRat (sgnI s m) (if n = 0 then 1 else n) = R at h1 h2 h3 ⊢
  have hz : R.num = 0 ↔ sgnI s m = 0 := by
    constructor
    · intro h
      rw [h, Int.natAbs_zero] at h1
      have hd := Nat.gcd_dvd_left (sgnI s m).natAbs (if n = 0 then 1 else n)
      have := Nat.div_mul_cancel hd
      rw [← h1] at this
      omega
    · intro h
      rw [h, Int.natAbs_zero, Nat.zero_div] at h1
      omega
  unfold sgnN
  by_cases hlt : sgnI s m < 0
  · rw [if_pos hlt, if_pos (h3.2 hlt)]
  · rw [if_neg hlt, if_neg (fun h => hlt (h3.1 h))]
    by_cases h0 : sgnI s m = 0
    · rw [if_pos h0, if_pos (hz.2 h0)]
    · rw [if_neg h0, if_neg (fun h => h0 (hz.1 h))]
set_option maxHeartbeats 1000000 in
set_option maxRecDepth 100000 in
theorem mk_rsign {w : World} {a : Value} {q : Rat} (ha : RI w a q) : Calls Tryz.prog 46 #[a] w (Makes w fun v _ => v = .int .i64 (cmpR q 0)) := by
  obtain ⟨s, p1, k1, c1, p2, k2, c2, m, n, rfl, hu, hd, hq⟩ := ha.slice
  have HS := Lib.hid (fun X (hX : Bel w X) => mk_zsign (w := X) (ZI.mk (s := s) (hu.bel hX)))
  rw [sgn_of_made hq, sgn_cmp] at HS
  have HB : Hid (∀ o, Bel w (w.alloc o)) := fun o => (Bel.refl w).alloc o
  clear ha hu hd hq
  go_enter Tryz.func46, Tryz.ntmps46
  go_wp2_with (go_at_call 97; (with_reducible refine (HS.out _ (HB.out _)).mono ?_); rintro e w3 ⟨v3, rfl, hb3, rfl⟩; have HB3 := Lib.hid ((HB.out _).trans hb3); clear hb3)
  go_ret
  exact ⟨_, rfl, HB3.out, rfl⟩
set_option maxHeartbeats 4000000 in
set_option maxRecDepth 100000 in
theorem mk_rcmp {w : World} {a b : Value} {x y : Rat} {i j : Nat} (ha : RS i w a x) (hb : RS j w b y) (hl : i + j < LimK) : Calls Tryz.prog 44 #[a, b] w (Makes w fun v _ => v = .int .i64 (cmpR x y)) := by
  have hx := ha.2
  have hy := hb.2
  have fx := hx.fit (by omega)
  have fy := hy.fit (by omega)
  have HGA := Lib.hid (fun X (hX : Bel w X) => mk_rgood (ha.1.bel hX))
  have HGB := Lib.hid (fun X (hX : Bel w X) => mk_rgood (hb.1.bel hX))
  have e1 : (x.num * (y.den : Int)).natAbs < B64 ^ (i + j) := natAbs_mul_lt hx.1 hy.2
  have e2 : (y.num * (x.den : Int)).natAbs < B64 ^ (i + j) := by rw [Nat.add_comm]; exact natAbs_mul_lt hy.1 hx.2
  have lk : i + j + 1 < 400000000 := by unfold LimK at hl; omega
  have HM1 : Hid (∀ X u v, ZC X u x.num → ZC X v (y.den : Int) → _) := fun X u v hu hv => mk_zmul (w := X) (hu.zi fx.1) (hv.zi (by rw [Int.natAbs_natCast]; exact fy.2)) (fit_of e1 (by omega))
  have HM2 : Hid (∀ X u v, ZC X u y.num → ZC X v (x.den : Int) → _) := fun X u v hu hv => mk_zmul (w := X) (hu.zi fy.1) (hv.zi (by rw [Int.natAbs_natCast]; exact fx.2)) (fit_of e2 (by omega))
  have e3 : (x.num * (y.den : Int) - y.num * (x.den : Int)).natAbs < B64 ^ (i + j + 1) := by rw [Int.sub_eq_add_neg]; exact natAbs_add_lt e1 (by rw [Int.natAbs_neg]; exact e2)
  have HC : Hid (∀ X u v, ZC X u (x.num * (y.den : Int)) → ZC X v (y.num * (x.den : Int)) → _) := fun X u v hu hv => mk_zcmp (w := X) (hu.zi (fit_of e1 (by omega))) (hv.zi (fit_of e2 (by omega))) (fit_of e3 (by omega))
  rw [← cmp_sgn] at HC
  obtain ⟨Z1, hZ1⟩ : ∃ Z, x.num * (y.den : Int) = Z := ⟨_, rfl⟩
  obtain ⟨Z2, hZ2⟩ : ∃ Z, y.num * (x.den : Int) = Z := ⟨_, rfl⟩
  rw [hZ1] at HM1 HC
  rw [hZ2] at HM2 HC
  obtain ⟨R, hR⟩ : ∃ R, cmpR x y = R := ⟨_, rfl⟩
  rw [hR] at HC ⊢
  obtain ⟨s1, p1, k1, c1, p2, k2, c2, m1, m2, rfl, -⟩ := ha.1.slice
  obtain ⟨s2, p3, k3, c3, p4, k4, c4, m3, m4, rfl, -⟩ := hb.1.slice
  clear ha hb hx hy hl fx fy e1 e2 e3 lk hZ1 hZ2 hR
  go_enter Tryz.func44, Tryz.ntmps44
  go_upto_region 1 with fail
  obtain ⟨hX2, hX3, hbw⟩ := boxes2 w (.cells #[.bool s1, .slice p1 k1 c1, .slice p2 k2 c2] 26) (.cells #[.bool s2, .slice p3 k3 c3, .slice p4 k4 c4] 26)
  obtain ⟨W, hW⟩ : ∃ W, (w.alloc (.cells #[.bool s1, .slice p1 k1 c1, .slice p2 k2 c2] 26)).alloc (.cells #[.bool s2, .slice p3 k3 c3, .slice p4 k4 c4] 26) = W := ⟨_, rfl⟩
  rw [hW] at hX2 hX3 hbw ⊢
  obtain ⟨X2, eX2⟩ : ∃ X, w.heap.size = X := ⟨_, rfl⟩
  obtain ⟨X3, eX3⟩ : ∃ X, X2 + 1 = X := ⟨_, rfl⟩
  rw [eX2, eX3]
  rw [eX2] at hX2 hX3
  rw [eX3] at hX3
  have HX2 := Lib.hid hX2
  have HX3 := Lib.hid hX3
  have HBW := Lib.hid hbw
  have HGEX2 : Hid (w.heap.size ≤ X2) := by unfold Hid; omega
  have HGEX3 : Hid (w.heap.size ≤ X3) := by unfold Hid; omega
  have HLT : Hid (X2 < X3) := by unfold Hid; omega
  clear hW hbw hX2 hX3 eX2 eX3
  refine region_flow 4 [[], [0], [], [2]] [.is (.agg #[.bool s1, .slice p1 k1 c1, .slice p2 k2 c2]), .has (fun v w => RC w v x), .is (.agg #[.bool s2, .slice p3 k3 c3, .slice p4 k4 c4]), .has (fun v w => RC w v y)] (by kernel_rfl) (by kernel_rfl) rfl (by simp only [Steady]; exact ⟨fun _ _ _ h hb => h.bel hb, fun _ _ _ h hb => h.bel hb, trivial⟩) ?_
  simp only [List.take_succ_cons, List.take_zero, List.drop_succ_cons, List.drop_zero]
  refine fV (by rfl) (by intro w1 hw1 hk1; obtain ⟨c0, c1, c2⟩ := boxc3 (hw1.heap HX2.out); go_simp) ?_
  simp only [Act.put, sA, sB, sC]
  refine fH (by rfl) (by intro w1 hw1 hk1; exact HGA.out _ (HBW.out.trans hw1)) (by intro; go_simp) (fun v1 => ?_)
  simp only [Act.put, sA, sB, sC]
  refine fV (by rfl) (by intro w1 hw1 hk1; obtain ⟨c0, c1, c2⟩ := boxc3 (hw1.heap HX3.out); go_simp) ?_
  simp only [Act.put, sA, sB, sC]
  refine fH (by rfl) (by intro w1 hw1 hk1; exact HGB.out _ (HBW.out.trans hw1)) (by intro; go_simp) (fun v3 => ?_)
  simp only [Act.put, sA, sB, sC]
  intro w1 hw1 hk1
  obtain ⟨g3, g1, -⟩ := hk1
  obtain ⟨q1, j1, d1, q2, j2, d2, rfl, -⟩ := g1.slice
  obtain ⟨q3, j3, d3, q4, j4, d4, rfl, -⟩ := g3.slice
  have hX23 : X2 ≠ X3 := by have := HLT.out; omega
  have y2 := hw1.heap HX2.out
  have y3 := hw1.heap HX3.out
  have a0 : w1.cell? ⟨X2, 0, none⟩ = some (.bool s1) := (heap_cell y2 0).trans rfl
  have a1 : w1.cell? ⟨X2, 1, none⟩ = some (.slice p1 k1 c1) := (heap_cell y2 1).trans rfl
  have a2 : w1.cell? ⟨X2, 2, none⟩ = some (.slice p2 k2 c2) := (heap_cell y2 2).trans rfl
  have a3 : w1.frozen? ⟨X2, 0, none⟩ = false := heap_frozen y2 0
  have a4 : w1.frozen? ⟨X2, 1, none⟩ = false := heap_frozen y2 1
  have a5 : w1.frozen? ⟨X2, 2, none⟩ = false := heap_frozen y2 2
  have b0 : w1.cell? ⟨X3, 0, none⟩ = some (.bool s2) := (heap_cell y3 0).trans rfl
  have b1 : w1.cell? ⟨X3, 1, none⟩ = some (.slice p3 k3 c3) := (heap_cell y3 1).trans rfl
  have b2 : w1.cell? ⟨X3, 2, none⟩ = some (.slice p4 k4 c4) := (heap_cell y3 2).trans rfl
  have b3 : w1.frozen? ⟨X3, 0, none⟩ = false := heap_frozen y3 0
  have b4 : w1.frozen? ⟨X3, 1, none⟩ = false := heap_frozen y3 1
  have b5 : w1.frozen? ⟨X3, 2, none⟩ = false := heap_frozen y3 2
  obtain ⟨sx, hsx⟩ : ∃ s, decide (x.num < 0) = s := ⟨_, rfl⟩
  obtain ⟨sy, hsy⟩ : ∃ s, decide (y.num < 0) = s := ⟨_, rfl⟩
  rw [hsx] at g1 ⊢
  rw [hsy] at g3 ⊢
  have HSX := Lib.hid hsx
  have HSY := Lib.hid hsy
  have ST := Lib.hid (fun W' hW' => rstore_two (s := sx) (t := sy) y2 y3 hX23 (noInt_rat _ _ _ _ _ _ _) (noInt_rat _ _ _ _ _ _ _) g1 g3 (HBW.out.trans hw1) HGEX2.out HGEX3.out (W := W') hW')
  have HW1 := Lib.hid hw1
  clear g1 g3 hw1 hsx hsy y2 y3 HX2 HX3 HGA HGB
  go_upto_region 2 with fail
  obtain ⟨W2, hW2⟩ : ∃ W', (((((w1.setCell ⟨X2, 0, none⟩ (.bool sx)).setCell ⟨X2, 1, none⟩ (.slice q1 j1 d1)).setCell ⟨X2, 2, none⟩ (.slice q2 j2 d2)).setCell ⟨X3, 0, none⟩ (.bool sy)).setCell ⟨X3, 1, none⟩ (.slice q3 j3 d3)).setCell ⟨X3, 2, none⟩ (.slice q4 j4 d4) = W' := ⟨_, rfl⟩
  rw [hW2]
  obtain ⟨h2, h3, hr2, hr3, hbw, hoth⟩ := ST.out W2 hW2.symm
  have HX2 := Lib.hid h2
  have HX3 := Lib.hid h3
  have HR2 := Lib.hid hr2
  have HR3 := Lib.hid hr3
  have HBW2 := Lib.hid hbw
  have HOTH := Lib.hid hoth
  clear a0 a1 a2 a3 a4 a5 b0 b1 b2 b3 b4 b5 h2 h3 hr2 hr3 hbw hoth hW2 ST hX23
  refine region_flow 11 [[], [0], [], [2], [1, 3], [], [5], [], [7], [6, 8], [4, 9]] [.is (.pointer (some ⟨X2, 0, none⟩)), .is (.agg #[.bool sx, .slice q1 j1 d1]), .is (.agg #[.bool sy, .slice q3 j3 d3, .slice q4 j4 d4]), .has (fun v w => ZC w v (y.den : Int)), .has (fun v w => ZC w v Z1), .is (.pointer (some ⟨X3, 0, none⟩)), .is (.agg #[.bool sy, .slice q3 j3 d3]), .is (.agg #[.bool sx, .slice q1 j1 d1, .slice q2 j2 d2]), .has (fun v w => ZC w v (x.den : Int)), .has (fun v w => ZC w v Z2), .is (.int .i64 R)] (by kernel_rfl) (by kernel_rfl) rfl (by simp only [Steady]; exact ⟨fun _ _ _ h hb => h.bel hb, fun _ _ _ h hb => h.bel hb, fun _ _ _ h hb => h.bel hb, fun _ _ _ h hb => h.bel hb, trivial⟩) ?_
  simp only [List.take_succ_cons, List.take_zero, List.drop_succ_cons, List.drop_zero]
  refine fV (by rfl) (by intro w1 hw1 hk1; go_simp) ?_
  simp only [Act.put, sA, sB, sC]
  refine fV (by rfl) (by intro w1 hw1 hk1; obtain ⟨c0, c1, -⟩ := boxc3 (hw1.heap HX2.out); go_simp) ?_
  simp only [Act.put, sA, sB, sC]
  refine fV (by rfl) (by intro w1 hw1 hk1; obtain ⟨c0, c1, c2⟩ := boxc3 (hw1.heap HX3.out); go_simp) ?_
  simp only [Act.put, sA, sB, sC]
  refine fH (by rfl) (by intro w1 hw1 hk1; exact mk_over (HR3.out.bel hw1)) (by intro; go_simp) (fun v3 => ?_)
  simp only [Act.put, sA, sB, sC]
  refine fH (by rfl) (by intro w1 hw1 hk1; obtain ⟨g3, -⟩ := hk1; exact HM1.out _ _ _ (num_of (HR2.out.bel hw1)) g3) (by intro; go_simp) (fun v4 => ?_)
  simp only [Act.put, sA, sB, sC]
  refine fV (by rfl) (by intro w1 hw1 hk1; go_simp) ?_
  simp only [Act.put, sA, sB, sC]
  refine fV (by rfl) (by intro w1 hw1 hk1; obtain ⟨c0, c1, -⟩ := boxc3 (hw1.heap HX3.out); go_simp) ?_
  simp only [Act.put, sA, sB, sC]
  refine fV (by rfl) (by intro w1 hw1 hk1; obtain ⟨c0, c1, c2⟩ := boxc3 (hw1.heap HX2.out); go_simp) ?_
  simp only [Act.put, sA, sB, sC]
  refine fH (by rfl) (by intro w1 hw1 hk1; exact mk_over (HR2.out.bel hw1)) (by intro; go_simp) (fun v8 => ?_)
  simp only [Act.put, sA, sB, sC]
  refine fH (by rfl) (by intro w1 hw1 hk1; obtain ⟨g8, -, -, -⟩ := hk1; exact HM2.out _ _ _ (num_of (HR3.out.bel hw1)) g8) (by intro; go_simp) (fun v9 => ?_)
  simp only [Act.put, sA, sB, sC]
  refine fC (by rfl) (by intro w1 hw1 hk1; obtain ⟨g9, -, g4, -, -⟩ := hk1; exact HC.out _ _ _ g4 g9) (by intro; go_simp) ?_
  simp only [Act.put, sA, sB, sC]
  intro w1 hw1 hk1
  obtain ⟨g9, g8, g4, g3, -⟩ := hk1
  have HB3 := Lib.hid hw1
  clear hw1 g9 g8 g4 g3
  go_wp2
  go_ret
  exact ⟨_, rfl, HBW2.out.trans HB3.out, rfl⟩
theorem sgnN_zero {y : Int} (h : y = 0) : sgnN y = 0 := by rw [h]; rfl
theorem sgnN_neg {y : Int} (h : y < 0) : sgnN y = -1 := if_pos h
theorem sgnN_pos {y : Int} (h : 0 < y) : sgnN y = 1 := by rw [sgnN, if_neg (by omega), if_neg (by omega)]
def ratZero : Value := .agg #[.bool false, .slice none 0 0, .slice none 0 0]
set_option maxHeartbeats 2000000 in
set_option maxRecDepth 100000 in
theorem mk_make0 {w : World} {a b : Value} {x : Int} (ha : ZI w a x) (hb : ZI w b 0) : Calls Tryz.prog 94 #[a, b] w (Makes w fun v _ => v = .tuple #[ratZero, .int .i64 12]) := by
  have HS := Lib.hid (fun X (hX : Bel w X) => mk_zsign (w := X) (hb.bel hX))
  rw [sgnN_zero rfl] at HS
  obtain ⟨s1, p1, k1, c1, m, rfl, -, -⟩ := ha.slice
  obtain ⟨s2, p2, k2, c2, n, rfl, -, -⟩ := hb.slice
  clear ha hb
  go_enter Tryz.func94, Tryz.ntmps94
  go_upto_region 1 with fail
  obtain ⟨hX2, hX3, hX4, hbw⟩ := boxes3 w (.cells #[.bool s1, .slice p1 k1 c1] 24) (.cells #[.bool s2, .slice p2 k2 c2] 24) (.cells #[.bool false, .slice none 0 0, .slice none 0 0] 26)
  obtain ⟨W, hW⟩ : ∃ W, ((w.alloc (.cells #[.bool s1, .slice p1 k1 c1] 24)).alloc (.cells #[.bool s2, .slice p2 k2 c2] 24)).alloc (.cells #[.bool false, .slice none 0 0, .slice none 0 0] 26) = W := ⟨_, rfl⟩
  rw [hW] at hX2 hX3 hX4 hbw ⊢
  obtain ⟨X2, eX2⟩ : ∃ X, w.heap.size = X := ⟨_, rfl⟩
  obtain ⟨X3, eX3⟩ : ∃ X, X2 + 1 = X := ⟨_, rfl⟩
  obtain ⟨X4, eX4⟩ : ∃ X, X3 + 1 = X := ⟨_, rfl⟩
  rw [eX2, eX3, eX4]
  rw [eX2] at hX2 hX3 hX4
  rw [eX3] at hX3 hX4
  rw [eX4] at hX4
  have HX2 := Lib.hid hX2
  have HX3 := Lib.hid hX3
  have HX4 := Lib.hid hX4
  have HBW := Lib.hid hbw
  have HGEX2 : Hid (w.heap.size ≤ X2) := by unfold Hid; omega
  have HGEX3 : Hid (w.heap.size ≤ X3) := by unfold Hid; omega
  have HGEX4 : Hid (w.heap.size ≤ X4) := by unfold Hid; omega
  have HLT : Hid (X2 < X3 ∧ X3 < X4) := by unfold Hid; omega
  clear hW hbw hX2 hX3 hX4 eX2 eX3 eX4
  have b0 : W.cell? ⟨X3, 0, none⟩ = some (.bool s2) := (heap_cell HX3.out 0).trans rfl
  have b1 : W.cell? ⟨X3, 1, none⟩ = some (.slice p2 k2 c2) := (heap_cell HX3.out 1).trans rfl
  go_wp2_with (go_at_call 97; (with_reducible refine (HS.out _ HBW.out).mono ?_); rintro e w1 ⟨v1, rfl, hb1, rfl⟩; have HB3 := Lib.hid hb1; have hhX4 := (hb1).heap HX4.out; have HHX4 := Lib.hid hhX4; have dX40 : w1.cell? ⟨X4, 0, none⟩ = some (.bool false) := (heap_cell hhX4 0).trans rfl; have fX40 : w1.frozen? ⟨X4, 0, none⟩ = false := heap_frozen hhX4 0; have dX41 : w1.cell? ⟨X4, 1, none⟩ = some (.slice none 0 0) := (heap_cell hhX4 1).trans rfl; have fX41 : w1.frozen? ⟨X4, 1, none⟩ = false := heap_frozen hhX4 1; have dX42 : w1.cell? ⟨X4, 2, none⟩ = some (.slice none 0 0) := (heap_cell hhX4 2).trans rfl; have fX42 : w1.frozen? ⟨X4, 2, none⟩ = false := heap_frozen hhX4 2; clear hhX4; clear hb1)
  obtain ⟨kb, kp, kh⟩ := finAll (vs := [.bool false, .slice none 0 0, .slice none 0 0]) (HBW.out.trans HB3.out) HHX4.out rfl HGEX4.out (Φ := fun W2 => True) (fun W2 ho => trivial)
  have kk0 : (setAll w1 X4 0 [.bool false, .slice none 0 0, .slice none 0 0]).cell? ⟨X4, 0, none⟩ = some (.bool false) := (heap_cell kh 0).trans rfl
  have kk1 : (setAll w1 X4 0 [.bool false, .slice none 0 0, .slice none 0 0]).cell? ⟨X4, 1, none⟩ = some (.slice none 0 0) := (heap_cell kh 1).trans rfl
  have kk2 : (setAll w1 X4 0 [.bool false, .slice none 0 0, .slice none 0 0]).cell? ⟨X4, 2, none⟩ = some (.slice none 0 0) := (heap_cell kh 2).trans rfl
  simp only [setAll] at kb kp kk0 kk1 kk2
  exact bodyPost_ret (v := .tuple #[.agg #[.bool false, .slice none 0 0, .slice none 0 0], .int .i64 12]) (by simp [results, Tryz.results94, go_sem, kk0, kk1, kk2]) rfl ⟨_, rfl, kb, rfl⟩
set_option maxHeartbeats 4000000 in
set_option maxRecDepth 100000 in
theorem mk_make {w : World} {a b : Value} {x y : Int} (ha : ZI w a x) (hb : ZI w b y) (h0 : y ≠ 0) : Calls Tryz.prog 94 #[a, b] w (Makes w fun v w' => ∃ u, v = .tuple #[u, .int .i64 0] ∧ RC w' u (mkRat (if y < 0 then -x else x) y.natAbs)) := by
  have HS := Lib.hid (fun X (hX : Bel w X) => mk_zsign (w := X) (hb.bel hX))
  have hfx := ha.fit
  have HNG := Lib.hid (fun X (hX : Bel w X) => mk_zneg (ha.bel hX))
  obtain ⟨P, hP⟩ : ∃ P, (if y < 0 then -x else x) = P := ⟨_, rfl⟩
  rw [hP]
  have hfP : Fit P.natAbs := by rw [← hP]; split; rw [Int.natAbs_neg]; exact hfx; exact hfx
  have HA : Hid (∀ X u, ZI X u P → _) := fun X u hu => mk_zadd (w := X) hu (ni_zero_int X) (by rw [Int.add_zero]; exact hfP)
  rw [Int.add_zero] at HA
  obtain ⟨s1, p1, k1, c1, m, rfl, hm, hx⟩ := ha.slice
  obtain ⟨s2, p2, k2, c2, n, rfl, hn, hy⟩ := hb.slice
  have hny : y.natAbs = n := by rw [← hy, sgn_abs]
  have hn0 : n ≠ 0 := by omega
  rw [hny]
  have HM : Hid (∀ X (_ : Bel w X) u, ZC X u P → _) := fun X hX u hu => mk_rmade (w := X) (hu.zi hfP) (hn.bel hX) hn0
  obtain ⟨R, hR⟩ : ∃ R, mkRat P n = R := ⟨_, rfl⟩
  rw [hR] at HM ⊢
  have HAI := Lib.hid (fun X (hX : Bel w X) => ha.bel hX)
  by_cases hlt : y < 0
  · rw [sgnN_neg hlt] at HS
    rw [if_pos hlt] at hP
    rw [hP] at HNG
    clear ha hb h0 hfx hm hn hx hy hny hn0 hR hP hlt HAI
    go_enter Tryz.func94, Tryz.ntmps94
    go_upto_region 1 with fail
    obtain ⟨hX2, hX3, hX4, hbw⟩ := boxes3 w (.cells #[.bool s1, .slice p1 k1 c1] 24) (.cells #[.bool s2, .slice p2 k2 c2] 24) (.cells #[.bool false, .slice none 0 0, .slice none 0 0] 26)
    obtain ⟨W, hW⟩ : ∃ W, ((w.alloc (.cells #[.bool s1, .slice p1 k1 c1] 24)).alloc (.cells #[.bool s2, .slice p2 k2 c2] 24)).alloc (.cells #[.bool false, .slice none 0 0, .slice none 0 0] 26) = W := ⟨_, rfl⟩
    rw [hW] at hX2 hX3 hX4 hbw ⊢
    obtain ⟨X2, eX2⟩ : ∃ X, w.heap.size = X := ⟨_, rfl⟩
    obtain ⟨X3, eX3⟩ : ∃ X, X2 + 1 = X := ⟨_, rfl⟩
    obtain ⟨X4, eX4⟩ : ∃ X, X3 + 1 = X := ⟨_, rfl⟩
    rw [eX2, eX3, eX4]
    rw [eX2] at hX2 hX3 hX4
    rw [eX3] at hX3 hX4
    rw [eX4] at hX4
    have HX2 := Lib.hid hX2
    have HX3 := Lib.hid hX3
    have HX4 := Lib.hid hX4
    have HBW := Lib.hid hbw
    have HGEX2 : Hid (w.heap.size ≤ X2) := by unfold Hid; omega
    have HGEX3 : Hid (w.heap.size ≤ X3) := by unfold Hid; omega
    have HGEX4 : Hid (w.heap.size ≤ X4) := by unfold Hid; omega
    have HLT : Hid (X2 < X3 ∧ X3 < X4) := by unfold Hid; omega
    clear hW hbw hX2 hX3 hX4 eX2 eX3 eX4
    have a0 : W.cell? ⟨X2, 0, none⟩ = some (.bool s1) := (heap_cell HX2.out 0).trans rfl
    have a1 : W.cell? ⟨X2, 1, none⟩ = some (.slice p1 k1 c1) := (heap_cell HX2.out 1).trans rfl
    have b0 : W.cell? ⟨X3, 0, none⟩ = some (.bool s2) := (heap_cell HX3.out 0).trans rfl
    have b1 : W.cell? ⟨X3, 1, none⟩ = some (.slice p2 k2 c2) := (heap_cell HX3.out 1).trans rfl
    go_upto_region 6 with (first
      | (go_at_call 97; (with_reducible refine (HS.out _ HBW.out).mono ?_); rintro e w2 ⟨v2, rfl, hb2, rfl⟩; have HB2 := Lib.hid hb2; have d0 := hb2.cell a0; have d1 := hb2.cell a1; clear hb2)
      | (go_at_call 99; (with_reducible refine (HNG.out _ (HBW.out.trans HB2.out)).mono ?_); rintro e w3 ⟨v3, rfl, hb3, hv3⟩; obtain ⟨p5, k5, c5, rfl, -⟩ := hv3.slice; have HB3 := Lib.hid (HB2.out.trans hb3); have HV3 := Lib.hid hv3; clear hv3; have hh2 := HB3.out.heap HX2.out; have e0 : w3.cell? ⟨X2, 0, none⟩ = some (.bool s1) := (heap_cell hh2 0).trans rfl; have e1 : w3.cell? ⟨X2, 1, none⟩ = some (.slice p1 k1 c1) := (heap_cell hh2 1).trans rfl; have e2 : w3.frozen? ⟨X2, 0, none⟩ = false := heap_frozen hh2 0; have e3 : w3.frozen? ⟨X2, 1, none⟩ = false := heap_frozen hh2 1; clear hb3 hh2))
    obtain ⟨hst1, hst2, hst3⟩ := setAll_box (HB3.out.heap HX2.out) [.bool (decide (P < 0)), .slice p5 k5 c5] rfl (HBW.out.trans HB3.out) HGEX2.out
    simp only [setAll] at hst1 hst2 hst3
    have hz := HV3.out.only hst2 (HB3.out.heap HX2.out) (noInt_int _ _ _ _)
    have hy3 := (hst2.2 X3 (by have := HLT.out; omega)).trans (HB3.out.heap HX3.out)
    have hy4 := (hst2.2 X4 (by have := HLT.out; omega)).trans (HB3.out.heap HX4.out)
    obtain ⟨W5, hW5⟩ : ∃ W', (w3.setCell ⟨X2, 0, none⟩ (.bool (decide (P < 0)))).setCell ⟨X2, 0 + 1, none⟩ (.slice p5 k5 c5) = W' := ⟨_, rfl⟩
    rw [hW5] at hst1 hst3 hz hy3 hy4
    rw [show (0 : Nat) + 1 = 1 from rfl] at hW5
    rw [hW5]
    clear HX2 HX3 HX4 a0 a1 b0 b1 d0 d1 e0 e1 e2 e3 hst2 hW5
    have HX2 := Lib.hid hst1
    have HX3 := Lib.hid hy3
    have HX4 := Lib.hid hy4
    have HZ := Lib.hid hz
    have HBW5 := Lib.hid hst3
    obtain ⟨sp, hsp⟩ : ∃ s, decide (P < 0) = s := ⟨_, rfl⟩
    rw [hsp] at HX2 HZ ⊢
    have HZI := Lib.hid (fun X (hX : Bel W5 X) => (HZ.out.bel hX).zi hfP)
    clear hst1 hst3 hz hy3 hy4 hsp hfP
    refine region_flow 6 [[], [], [0, 1], [], [3], [2, 4]] [.is (.agg #[.bool sp, .slice p5 k5 c5]), .is (.agg #[.bool false, .slice none 0 0]), .has (fun v w => ZC w v P), .is (.pointer (some ⟨X3, 1, none⟩)), .is (.slice p2 k2 c2), .has (fun v w => RC w v R)] (by kernel_rfl) (by kernel_rfl) rfl (by simp only [Steady]; exact ⟨fun _ _ _ h hb => h.bel hb, fun _ _ _ h hb => h.bel hb, trivial⟩) ?_
    simp only [List.take_succ_cons, List.take_zero, List.drop_succ_cons, List.drop_zero]
    refine fV (by rfl) (by intro w1 hw1 hk1; obtain ⟨c0, c1⟩ := boxc2 (hw1.heap HX2.out); go_simp) ?_
    simp only [Act.put, sA, sB, sC]
    refine fV (by rfl) (by intro w1 hw1 hk1; go_simp) ?_
    simp only [Act.put, sA, sB, sC]
    refine fH (by rfl) (by intro w1 hw1 hk1; exact HA.out _ _ (HZI.out _ hw1)) (by intro; go_simp) (fun v2 => ?_)
    simp only [Act.put, sA, sB, sC]
    refine fV (by rfl) (by intro w1 hw1 hk1; go_simp) ?_
    simp only [Act.put, sA, sB, sC]
    refine fV (by rfl) (by intro w1 hw1 hk1; have c1 : w1.cell? ⟨X3, 1, none⟩ = some (.slice p2 k2 c2) := (heap_cell (hw1.heap HX3.out) 1).trans rfl; go_simp) ?_
    simp only [Act.put, sA, sB, sC]
    refine fH (by rfl) (by intro w1 hw1 hk1; obtain ⟨g2, -⟩ := hk1; exact HM.out _ (HBW5.out.trans hw1) _ g2) (by intro; go_simp) (fun v5 => ?_)
    simp only [Act.put, sA, sB, sC]
    intro w1 hw1 hk1
    obtain ⟨g5, g2, -⟩ := hk1
    obtain ⟨p6, k6, c6, p7, k7, c7, rfl, -⟩ := g5.slice
    have HV := Lib.hid g5
    have HB3 := Lib.hid hw1
    have hhX4 := (hw1).heap HX4.out
    have HHX4 := Lib.hid hhX4
    have dX40 : w1.cell? ⟨X4, 0, none⟩ = some (.bool false) := (heap_cell hhX4 0).trans rfl
    have fX40 : w1.frozen? ⟨X4, 0, none⟩ = false := heap_frozen hhX4 0
    have dX41 : w1.cell? ⟨X4, 1, none⟩ = some (.slice none 0 0) := (heap_cell hhX4 1).trans rfl
    have fX41 : w1.frozen? ⟨X4, 1, none⟩ = false := heap_frozen hhX4 1
    have dX42 : w1.cell? ⟨X4, 2, none⟩ = some (.slice none 0 0) := (heap_cell hhX4 2).trans rfl
    have fX42 : w1.frozen? ⟨X4, 2, none⟩ = false := heap_frozen hhX4 2
    clear hhX4
    clear hw1 g5 g2
    go_wp2
    obtain ⟨kb, kp, kh⟩ := finAll (vs := [.bool (decide (R.num < 0)), .slice p6 k6 c6, .slice p7 k7 c7]) (HBW5.out.trans HB3.out) HHX4.out rfl HGEX4.out (Φ := fun W2 => RC W2 (.agg #[.bool (decide (R.num < 0)), .slice p6 k6 c6, .slice p7 k7 c7]) R) (fun W2 ho => HV.out.only ho HHX4.out (noInt_rat _ _ _ _ _ _ _))
    have kk0 : (setAll w1 X4 0 [.bool (decide (R.num < 0)), .slice p6 k6 c6, .slice p7 k7 c7]).cell? ⟨X4, 0, none⟩ = some (.bool (decide (R.num < 0))) := (heap_cell kh 0).trans rfl
    have kk1 : (setAll w1 X4 0 [.bool (decide (R.num < 0)), .slice p6 k6 c6, .slice p7 k7 c7]).cell? ⟨X4, 1, none⟩ = some (.slice p6 k6 c6) := (heap_cell kh 1).trans rfl
    have kk2 : (setAll w1 X4 0 [.bool (decide (R.num < 0)), .slice p6 k6 c6, .slice p7 k7 c7]).cell? ⟨X4, 2, none⟩ = some (.slice p7 k7 c7) := (heap_cell kh 2).trans rfl
    simp only [setAll] at kb kp kk0 kk1 kk2
    exact bodyPost_ret (v := .tuple #[.agg #[.bool (decide (R.num < 0)), .slice p6 k6 c6, .slice p7 k7 c7], .int .i64 0]) (by simp [results, Tryz.results94, go_sem, kk0, kk1, kk2]) rfl ⟨_, rfl, kb, _, rfl, kp⟩
  · have hgt : 0 < y := by omega
    rw [sgnN_pos hgt] at HS
    rw [if_neg hlt] at hP
    rw [hP] at HAI
    clear ha hb h0 hfx hm hn hx hy hny hn0 hR hP hlt hgt hfP HNG
    go_enter Tryz.func94, Tryz.ntmps94
    go_upto_region 1 with fail
    obtain ⟨hX2, hX3, hX4, hbw⟩ := boxes3 w (.cells #[.bool s1, .slice p1 k1 c1] 24) (.cells #[.bool s2, .slice p2 k2 c2] 24) (.cells #[.bool false, .slice none 0 0, .slice none 0 0] 26)
    obtain ⟨W, hW⟩ : ∃ W, ((w.alloc (.cells #[.bool s1, .slice p1 k1 c1] 24)).alloc (.cells #[.bool s2, .slice p2 k2 c2] 24)).alloc (.cells #[.bool false, .slice none 0 0, .slice none 0 0] 26) = W := ⟨_, rfl⟩
    rw [hW] at hX2 hX3 hX4 hbw ⊢
    obtain ⟨X2, eX2⟩ : ∃ X, w.heap.size = X := ⟨_, rfl⟩
    obtain ⟨X3, eX3⟩ : ∃ X, X2 + 1 = X := ⟨_, rfl⟩
    obtain ⟨X4, eX4⟩ : ∃ X, X3 + 1 = X := ⟨_, rfl⟩
    rw [eX2, eX3, eX4]
    rw [eX2] at hX2 hX3 hX4
    rw [eX3] at hX3 hX4
    rw [eX4] at hX4
    have HX2 := Lib.hid hX2
    have HX3 := Lib.hid hX3
    have HX4 := Lib.hid hX4
    have HBW := Lib.hid hbw
    have HGEX2 : Hid (w.heap.size ≤ X2) := by unfold Hid; omega
    have HGEX3 : Hid (w.heap.size ≤ X3) := by unfold Hid; omega
    have HGEX4 : Hid (w.heap.size ≤ X4) := by unfold Hid; omega
    have HLT : Hid (X2 < X3 ∧ X3 < X4) := by unfold Hid; omega
    clear hW hbw hX2 hX3 hX4 eX2 eX3 eX4
    have b0 : W.cell? ⟨X3, 0, none⟩ = some (.bool s2) := (heap_cell HX3.out 0).trans rfl
    have b1 : W.cell? ⟨X3, 1, none⟩ = some (.slice p2 k2 c2) := (heap_cell HX3.out 1).trans rfl
    go_upto_region 6 with (go_at_call 97; (with_reducible refine (HS.out _ HBW.out).mono ?_); rintro e w2 ⟨v2, rfl, hb2, rfl⟩; have HB2 := Lib.hid hb2; clear hb2)
    have HY2 := Lib.hid (HB2.out.heap HX2.out)
    have HY3 := Lib.hid (HB2.out.heap HX3.out)
    have HY4 := Lib.hid (HB2.out.heap HX4.out)
    have HBW2 := Lib.hid (HBW.out.trans HB2.out)
    clear HX2 HX3 HX4 b0 b1
    have HX2 := HY2
    have HX3 := HY3
    have HX4 := HY4
    clear HY2 HY3 HY4
    refine region_flow 6 [[], [], [0, 1], [], [3], [2, 4]] [.is (.agg #[.bool s1, .slice p1 k1 c1]), .is (.agg #[.bool false, .slice none 0 0]), .has (fun v w => ZC w v P), .is (.pointer (some ⟨X3, 1, none⟩)), .is (.slice p2 k2 c2), .has (fun v w => RC w v R)] (by kernel_rfl) (by kernel_rfl) rfl (by simp only [Steady]; exact ⟨fun _ _ _ h hb => h.bel hb, fun _ _ _ h hb => h.bel hb, trivial⟩) ?_
    simp only [List.take_succ_cons, List.take_zero, List.drop_succ_cons, List.drop_zero]
    refine fV (by rfl) (by intro w1 hw1 hk1; obtain ⟨c0, c1⟩ := boxc2 (hw1.heap HX2.out); go_simp) ?_
    simp only [Act.put, sA, sB, sC]
    refine fV (by rfl) (by intro w1 hw1 hk1; go_simp) ?_
    simp only [Act.put, sA, sB, sC]
    refine fH (by rfl) (by intro w1 hw1 hk1; exact HA.out _ _ (HAI.out _ (HBW2.out.trans hw1))) (by intro; go_simp) (fun v2 => ?_)
    simp only [Act.put, sA, sB, sC]
    refine fV (by rfl) (by intro w1 hw1 hk1; go_simp) ?_
    simp only [Act.put, sA, sB, sC]
    refine fV (by rfl) (by intro w1 hw1 hk1; have c1 : w1.cell? ⟨X3, 1, none⟩ = some (.slice p2 k2 c2) := (heap_cell (hw1.heap HX3.out) 1).trans rfl; go_simp) ?_
    simp only [Act.put, sA, sB, sC]
    refine fH (by rfl) (by intro w1 hw1 hk1; obtain ⟨g2, -⟩ := hk1; exact HM.out _ (HBW2.out.trans hw1) _ g2) (by intro; go_simp) (fun v5 => ?_)
    simp only [Act.put, sA, sB, sC]
    intro w1 hw1 hk1
    obtain ⟨g5, g2, -⟩ := hk1
    obtain ⟨p6, k6, c6, p7, k7, c7, rfl, -⟩ := g5.slice
    have HV := Lib.hid g5
    have HB3 := Lib.hid hw1
    have hhX4 := (hw1).heap HX4.out
    have HHX4 := Lib.hid hhX4
    have dX40 : w1.cell? ⟨X4, 0, none⟩ = some (.bool false) := (heap_cell hhX4 0).trans rfl
    have fX40 : w1.frozen? ⟨X4, 0, none⟩ = false := heap_frozen hhX4 0
    have dX41 : w1.cell? ⟨X4, 1, none⟩ = some (.slice none 0 0) := (heap_cell hhX4 1).trans rfl
    have fX41 : w1.frozen? ⟨X4, 1, none⟩ = false := heap_frozen hhX4 1
    have dX42 : w1.cell? ⟨X4, 2, none⟩ = some (.slice none 0 0) := (heap_cell hhX4 2).trans rfl
    have fX42 : w1.frozen? ⟨X4, 2, none⟩ = false := heap_frozen hhX4 2
    clear hhX4
    clear hw1 g5 g2
    go_wp2
    obtain ⟨kb, kp, kh⟩ := finAll (vs := [.bool (decide (R.num < 0)), .slice p6 k6 c6, .slice p7 k7 c7]) (HBW2.out.trans HB3.out) HHX4.out rfl HGEX4.out (Φ := fun W2 => RC W2 (.agg #[.bool (decide (R.num < 0)), .slice p6 k6 c6, .slice p7 k7 c7]) R) (fun W2 ho => HV.out.only ho HHX4.out (noInt_rat _ _ _ _ _ _ _))
    have kk0 : (setAll w1 X4 0 [.bool (decide (R.num < 0)), .slice p6 k6 c6, .slice p7 k7 c7]).cell? ⟨X4, 0, none⟩ = some (.bool (decide (R.num < 0))) := (heap_cell kh 0).trans rfl
    have kk1 : (setAll w1 X4 0 [.bool (decide (R.num < 0)), .slice p6 k6 c6, .slice p7 k7 c7]).cell? ⟨X4, 1, none⟩ = some (.slice p6 k6 c6) := (heap_cell kh 1).trans rfl
    have kk2 : (setAll w1 X4 0 [.bool (decide (R.num < 0)), .slice p6 k6 c6, .slice p7 k7 c7]).cell? ⟨X4, 2, none⟩ = some (.slice p7 k7 c7) := (heap_cell kh 2).trans rfl
    simp only [setAll] at kb kp kk0 kk1 kk2
    exact bodyPost_ret (v := .tuple #[.agg #[.bool (decide (R.num < 0)), .slice p6 k6 c6, .slice p7 k7 c7], .int .i64 0]) (by simp [results, Tryz.results94, go_sem, kk0, kk1, kk2]) rfl ⟨_, rfl, kb, _, rfl, kp⟩
theorem rstore_one {w w1 W : World} {X2 : Nat} {a0 a1 a2 : Value} {s : Bool} {p p' : Option Addr} {k c k' c' : Nat} {x : Rat} (h2 : w1.heap[X2]? = some (.cells #[a0, a1, a2] 26 (0, 0)))
    (i2 : NoInt .u64 #[a0, a1, a2]) (hx : RC w1 (.agg #[.bool s, .slice p k c, .slice p' k' c']) x) (hb : Bel w w1) (g2 : w.heap.size ≤ X2)
    (hW : W = ((w1.setCell ⟨X2, 0, none⟩ (.bool s)).setCell ⟨X2, 1, none⟩ (.slice p k c)).setCell ⟨X2, 2, none⟩ (.slice p' k' c')) :
    W.heap[X2]? = some (.cells #[.bool s, .slice p k c, .slice p' k' c'] 26 (0, 0)) ∧ RC W (.agg #[.bool s, .slice p k c, .slice p' k' c']) x ∧ Bel w W ∧ ∀ r, r ≠ X2 → W.heap[r]? = w1.heap[r]? := by
  obtain ⟨s1, o1, r1⟩ := setAll_box h2 [.bool s, .slice p k c, .slice p' k' c'] rfl hb g2
  have e : W = setAll w1 X2 0 [.bool s, .slice p k c, .slice p' k' c'] := hW
  rw [e]
  exact ⟨s1, hx.only o1 h2 i2, r1, o1.2⟩
theorem b64_big : (9223372036854775808 : Nat) < B64 ^ 1 := by decide
theorem fit_i64 {v : Int} (h1 : -9223372036854775808 ≤ v) (h2 : v < 9223372036854775808) : Fit v.natAbs := fit_of (k := 1) (Nat.lt_of_le_of_lt (by omega) b64_big) (by decide)
theorem neg_build {w : World} {s : Bool} {u d : Value} {x : Rat} (h : ZC w (.agg #[.bool s, u]) (-x.num)) (hd : NC w d x.den) : RC w (.agg #[.bool s, u, d]) (-x) := by
  obtain ⟨u', he, hu⟩ := h
  simp only [Value.agg.injEq, Array.mk.injEq, List.cons.injEq, and_true] at he
  obtain ⟨h1, rfl⟩ := he
  exact ⟨u, d, by rw [h1, Rat.neg_num], by rw [Rat.neg_num]; exact hu, by rw [Rat.neg_den]; exact hd⟩
theorem den_of {w : World} {s : Bool} {u d : Value} {x : Rat} (h : RC w (.agg #[.bool s, u, d]) x) : NC w d x.den := by
  obtain ⟨u', d', he, hu, hd⟩ := h
  simp only [Value.agg.injEq, Array.mk.injEq, List.cons.injEq, and_true] at he
  obtain ⟨h1, rfl, rfl⟩ := he
  exact hd
set_option maxHeartbeats 4000000 in
set_option maxRecDepth 100000 in
theorem mk_rof {p q : Int} (hp1 : -9223372036854775808 ≤ p) (hp2 : p < 9223372036854775808) (hq1 : -9223372036854775808 ≤ q) (hq2 : q < 9223372036854775808) (h0 : q ≠ 0) (w : World) :
    Calls Tryz.prog 45 #[.int .i64 p, .int .i64 q] w (Makes w fun v w' => RC w' v (mkRat (if q < 0 then -p else p) q.natAbs)) := by
  have HZ1 := Lib.hid (mk_zof p hp1 hp2)
  have HZ2 := Lib.hid (mk_zof q hq1 hq2)
  have f1 := fit_i64 hp1 hp2
  have f2 := fit_i64 hq1 hq2
  have HM : Hid (∀ X u v, ZC X u p → ZC X v q → _) := fun X u v hu hv => mk_make (w := X) (hu.zi f1) (hv.zi f2) h0
  obtain ⟨R, hR⟩ : ∃ R, mkRat (if q < 0 then -p else p) q.natAbs = R := ⟨_, rfl⟩
  rw [hR] at HM ⊢
  clear hp1 hp2 hq1 hq2 f1 f2 h0 hR
  go_enter Tryz.func45, Tryz.ntmps45
  go_upto_region 1 with fail
  obtain ⟨hX4, hbw⟩ := boxes1 w (.cells #[.bool false, .slice none 0 0, .slice none 0 0] 26)
  obtain ⟨W, hW⟩ : ∃ W, w.alloc (.cells #[.bool false, .slice none 0 0, .slice none 0 0] 26) = W := ⟨_, rfl⟩
  rw [hW] at hX4 hbw ⊢
  obtain ⟨X4, eX4⟩ : ∃ X, w.heap.size = X := ⟨_, rfl⟩
  rw [eX4]
  rw [eX4] at hX4
  have HX4 := Lib.hid hX4
  have HBW := Lib.hid hbw
  have HGEX4 : Hid (w.heap.size ≤ X4) := by unfold Hid; omega
  clear hW hbw hX4 eX4
  go_upto_region 2 with (first
    | (go_at_call 95; (with_reducible refine (HZ1.out _).mono ?_); rintro e w2 ⟨v2, rfl, hb2, hv2⟩; have HB2 := Lib.hid hb2; have HV2 := Lib.hid hv2; clear hb2 hv2)
    | (go_at_call 95; (with_reducible refine (HZ2.out _).mono ?_); rintro e w3 ⟨v3, rfl, hb3, hv3⟩; have HB3 := Lib.hid (HB2.out.trans hb3); have HV3 := Lib.hid hv3; have HV4 := Lib.hid (HV2.out.bel hb3); clear hb3 hv3)
    | (go_at_call 94; (with_reducible refine (HM.out _ _ _ HV4.out HV3.out).mono ?_); rintro e w4 ⟨v4, rfl, hb4, u4, rfl, hv4⟩; obtain ⟨p5, k5, c5, p6, k6, c6, rfl, -, -⟩ := hv4.slice; have HB4 := Lib.hid (HB3.out.trans hb4); have HV5 := Lib.hid hv4; clear hb4 hv4; obtain ⟨s5, hs5⟩ : ∃ s, decide (R.num < 0) = s := ⟨_, rfl⟩; rw [hs5] at HV5 ⊢; have HS := Lib.hid hs5; clear hs5))
  obtain ⟨r1, bb5⟩ := boxes1 w4 (.cells #[.bool s5, .slice p5 k5 c5, .slice p6 k6 c6] 26 (0, 0))
  obtain ⟨X5, hX5⟩ : ∃ X, w4.heap.size = X := ⟨_, rfl⟩
  rw [hX5] at r1 ⊢
  obtain ⟨W6, hW6⟩ : ∃ W', w4.alloc (.cells #[.bool s5, .slice p5 k5 c5, .slice p6 k6 c6] 26 (0, 0)) = W' := ⟨_, rfl⟩
  rw [hW6] at r1 bb5 ⊢
  have hy4 := bb5.heap (HB4.out.heap HX4.out)
  have HV := Lib.hid (HV5.out.bel bb5)
  have HBW6 := Lib.hid ((HBW.out.trans HB4.out).trans bb5)
  clear HX4 HV5 HV4 HV3 HV2 HB3 HB2 HB4 bb5 hW6 hX5
  have HX4 := Lib.hid hy4
  have a0 : W6.cell? ⟨X5, 0, none⟩ = some (.bool s5) := (heap_cell r1 0).trans rfl
  have a1 : W6.cell? ⟨X5, 1, none⟩ = some (.slice p5 k5 c5) := (heap_cell r1 1).trans rfl
  have a2 : W6.cell? ⟨X5, 2, none⟩ = some (.slice p6 k6 c6) := (heap_cell r1 2).trans rfl
  have HB6 : Hid (Bel W6 W6) := Lib.hid (Bel.refl _)
  have hhX4 := (HB6.out).heap HX4.out
  have HHX4 := Lib.hid hhX4
  have dX40 : W6.cell? ⟨X4, 0, none⟩ = some (.bool false) := (heap_cell hhX4 0).trans rfl
  have fX40 : W6.frozen? ⟨X4, 0, none⟩ = false := heap_frozen hhX4 0
  have dX41 : W6.cell? ⟨X4, 1, none⟩ = some (.slice none 0 0) := (heap_cell hhX4 1).trans rfl
  have fX41 : W6.frozen? ⟨X4, 1, none⟩ = false := heap_frozen hhX4 1
  have dX42 : W6.cell? ⟨X4, 2, none⟩ = some (.slice none 0 0) := (heap_cell hhX4 2).trans rfl
  have fX42 : W6.frozen? ⟨X4, 2, none⟩ = false := heap_frozen hhX4 2
  clear hhX4
  clear r1 hy4
  go_wp2
  obtain ⟨kb, kp, kh⟩ := finAll (vs := [.bool s5, .slice p5 k5 c5, .slice p6 k6 c6]) (HBW6.out) HHX4.out rfl HGEX4.out (Φ := fun W2 => RC W2 (.agg #[.bool s5, .slice p5 k5 c5, .slice p6 k6 c6]) R) (fun W2 ho => HV.out.only ho HHX4.out (noInt_rat _ _ _ _ _ _ _))
  have kk0 : (setAll W6 X4 0 [.bool s5, .slice p5 k5 c5, .slice p6 k6 c6]).cell? ⟨X4, 0, none⟩ = some (.bool s5) := (heap_cell kh 0).trans rfl
  have kk1 : (setAll W6 X4 0 [.bool s5, .slice p5 k5 c5, .slice p6 k6 c6]).cell? ⟨X4, 1, none⟩ = some (.slice p5 k5 c5) := (heap_cell kh 1).trans rfl
  have kk2 : (setAll W6 X4 0 [.bool s5, .slice p5 k5 c5, .slice p6 k6 c6]).cell? ⟨X4, 2, none⟩ = some (.slice p6 k6 c6) := (heap_cell kh 2).trans rfl
  simp only [setAll] at kb kp kk0 kk1 kk2
  exact bodyPost_ret (v := .agg #[.bool s5, .slice p5 k5 c5, .slice p6 k6 c6]) (by simp [results, Tryz.results45, go_sem, kk0, kk1, kk2]) rfl ⟨_, rfl, kb, kp⟩
set_option maxHeartbeats 4000000 in
set_option maxRecDepth 100000 in
theorem mk_rneg {w : World} {a : Value} {x : Rat} {i : Nat} (ha : RS i w a x) (hl : i < LimK) : Calls Tryz.prog 50 #[a] w (Makes w fun v w' => RC w' v (-x)) := by
  have fx := ha.2.fit (by omega)
  have HF := Lib.hid fx.1
  have HGA := Lib.hid (fun X (hX : Bel w X) => mk_rgood (ha.1.bel hX))
  obtain ⟨s1, p1, k1, c1, p2, k2, c2, m1, m2, rfl, -⟩ := ha.1.slice
  obtain ⟨Q, hQ⟩ : ∃ Q, -x = Q := ⟨_, rfl⟩
  rw [hQ]
  have HQ := Lib.hid hQ
  clear ha hl fx hQ
  go_enter Tryz.func50, Tryz.ntmps50
  go_upto_region 1 with fail
  obtain ⟨hX1, hX2, hbw⟩ := boxes2 w (.cells #[.bool s1, .slice p1 k1 c1, .slice p2 k2 c2] 26) (.cells #[.bool false, .slice none 0 0, .slice none 0 0] 26)
  obtain ⟨W, hW⟩ : ∃ W, (w.alloc (.cells #[.bool s1, .slice p1 k1 c1, .slice p2 k2 c2] 26)).alloc (.cells #[.bool false, .slice none 0 0, .slice none 0 0] 26) = W := ⟨_, rfl⟩
  rw [hW] at hX1 hX2 hbw ⊢
  obtain ⟨X1, eX1⟩ : ∃ X, w.heap.size = X := ⟨_, rfl⟩
  obtain ⟨X2, eX2⟩ : ∃ X, X1 + 1 = X := ⟨_, rfl⟩
  rw [eX1, eX2]
  rw [eX1] at hX1 hX2
  rw [eX2] at hX2
  have HX1 := Lib.hid hX1
  have HX2 := Lib.hid hX2
  have HBW := Lib.hid hbw
  have HGEX1 : Hid (w.heap.size ≤ X1) := by unfold Hid; omega
  have HGEX2 : Hid (w.heap.size ≤ X2) := by unfold Hid; omega
  have HLT : Hid (X1 < X2) := by unfold Hid; omega
  clear hW hbw hX1 hX2 eX1 eX2
  have a0 : W.cell? ⟨X1, 0, none⟩ = some (.bool s1) := (heap_cell HX1.out 0).trans rfl
  have a1 : W.cell? ⟨X1, 1, none⟩ = some (.slice p1 k1 c1) := (heap_cell HX1.out 1).trans rfl
  have a2 : W.cell? ⟨X1, 2, none⟩ = some (.slice p2 k2 c2) := (heap_cell HX1.out 2).trans rfl
  go_upto_region 2 with (go_at_call 90; (with_reducible refine (HGA.out _ HBW.out).mono ?_); rintro e w3 ⟨v3, rfl, hb3, hv3⟩; obtain ⟨q1, j1, d1, q2, j2, d2, rfl, -, -⟩ := hv3.slice; have HB3 := Lib.hid hb3; have HV3 := Lib.hid hv3; clear hv3; have hh2 := HB3.out.heap HX1.out; have e0 : w3.cell? ⟨X1, 0, none⟩ = some (.bool s1) := (heap_cell hh2 0).trans rfl; have e1 : w3.cell? ⟨X1, 1, none⟩ = some (.slice p1 k1 c1) := (heap_cell hh2 1).trans rfl; have e2 : w3.cell? ⟨X1, 2, none⟩ = some (.slice p2 k2 c2) := (heap_cell hh2 2).trans rfl; have e3 : w3.frozen? ⟨X1, 0, none⟩ = false := heap_frozen hh2 0; have e4 : w3.frozen? ⟨X1, 1, none⟩ = false := heap_frozen hh2 1; have e5 : w3.frozen? ⟨X1, 2, none⟩ = false := heap_frozen hh2 2; obtain ⟨sx, hsx⟩ : ∃ s, decide (x.num < 0) = s := ⟨_, rfl⟩; rw [hsx] at HV3 ⊢; have HS := Lib.hid hsx; clear hsx; clear hb3 hh2)
  obtain ⟨W5, hW5⟩ : ∃ W', ((w3.setCell ⟨X1, 0, none⟩ (.bool sx)).setCell ⟨X1, 1, none⟩ (.slice q1 j1 d1)).setCell ⟨X1, 2, none⟩ (.slice q2 j2 d2) = W' := ⟨_, rfl⟩
  obtain ⟨r1, r2, r3, r4⟩ := rstore_one (HB3.out.heap HX1.out) (noInt_rat _ _ _ _ _ _ _) HV3.out (HBW.out.trans HB3.out) HGEX1.out hW5.symm
  have hy2 := (r4 X2 (by have := HLT.out; omega)).trans (HB3.out.heap HX2.out)
  rw [hW5]
  clear HX1 HX2 a0 a1 a2 e0 e1 e2 e3 e4 e5 hW5 r4
  have HX1 := Lib.hid r1
  have HX2 := Lib.hid hy2
  have HR := Lib.hid r2
  have HBW5 := Lib.hid r3
  have HNG := Lib.hid (fun X (hX : Bel W5 X) => mk_zneg ((num_of (HR.out.bel hX)).zi HF.out))
  have HNB : Hid (∀ X s u, ZC X (.agg #[.bool s, u]) (-x.num) → Bel W5 X → RC X (.agg #[.bool s, u, .slice q2 j2 d2]) (-x)) := fun X s u h hX => neg_build h (den_of (HR.out.bel hX))
  obtain ⟨Z, hZ⟩ : ∃ Z, -x.num = Z := ⟨_, rfl⟩
  rw [hZ] at HNG HNB
  rw [HQ.out] at HNB
  clear r1 r2 r3 hy2 HGA HF hZ
  refine region_flow 6 [[], [0], [1], [], [3], [2, 4]] [.is (.pointer (some ⟨X1, 0, none⟩)), .is (.agg #[.bool sx, .slice q1 j1 d1]), .has (fun v w => ZC w v Z), .is (.pointer (some ⟨X1, 2, none⟩)), .is (.slice q2 j2 d2), .has (fun v w => RC w v Q)] (by kernel_rfl) (by kernel_rfl) rfl (by simp only [Steady]; exact ⟨fun _ _ _ h hb => h.bel hb, fun _ _ _ h hb => h.bel hb, trivial⟩) ?_
  simp only [List.take_succ_cons, List.take_zero, List.drop_succ_cons, List.drop_zero]
  refine fV (by rfl) (by intro w1 hw1 hk1; go_simp) ?_
  simp only [Act.put, sA, sB, sC]
  refine fV (by rfl) (by intro w1 hw1 hk1; obtain ⟨c0, c1, -⟩ := boxc3 (hw1.heap HX1.out); go_simp) ?_
  simp only [Act.put, sA, sB, sC]
  refine fH (by rfl) (by intro w1 hw1 hk1; exact HNG.out _ hw1) (by intro; go_simp) (fun v2 => ?_)
  simp only [Act.put, sA, sB, sC]
  refine fV (by rfl) (by intro w1 hw1 hk1; go_simp) ?_
  simp only [Act.put, sA, sB, sC]
  refine fV (by rfl) (by intro w1 hw1 hk1; have c2 : w1.cell? ⟨X1, 2, none⟩ = some (.slice q2 j2 d2) := (heap_cell (hw1.heap HX1.out) 2).trans rfl; go_simp) ?_
  simp only [Act.put, sA, sB, sC]
  refine flow_has (by intro w1 hw1 hk1; obtain ⟨g2, -⟩ := hk1; obtain ⟨p, k, c, rfl, -⟩ := g2.slice; refine want (by rfl) (gives_of (c := .agg #[.bool (decide (Z < 0)), .slice p k c, .slice q2 j2 d2]) (by go_simp) ?_); exact HNB.out _ _ _ g2 hw1) (fun v5 => ?_)
  simp only [Act.put, sA, sB, sC]
  intro w1 hw1 hk1
  obtain ⟨g5, g2, -⟩ := hk1
  obtain ⟨p6, k6, c6, p7, k7, c7, rfl, -⟩ := g5.slice
  have HV := Lib.hid g5
  have HB6 := Lib.hid hw1
  have hhX2 := (hw1).heap HX2.out
  have HHX2 := Lib.hid hhX2
  have dX20 : w1.cell? ⟨X2, 0, none⟩ = some (.bool false) := (heap_cell hhX2 0).trans rfl
  have fX20 : w1.frozen? ⟨X2, 0, none⟩ = false := heap_frozen hhX2 0
  have dX21 : w1.cell? ⟨X2, 1, none⟩ = some (.slice none 0 0) := (heap_cell hhX2 1).trans rfl
  have fX21 : w1.frozen? ⟨X2, 1, none⟩ = false := heap_frozen hhX2 1
  have dX22 : w1.cell? ⟨X2, 2, none⟩ = some (.slice none 0 0) := (heap_cell hhX2 2).trans rfl
  have fX22 : w1.frozen? ⟨X2, 2, none⟩ = false := heap_frozen hhX2 2
  clear hhX2
  clear hw1 g5 g2
  go_wp2
  obtain ⟨kb, kp, kh⟩ := finAll (vs := [.bool (decide (Q.num < 0)), .slice p6 k6 c6, .slice p7 k7 c7]) (HBW5.out.trans HB6.out) HHX2.out rfl HGEX2.out (Φ := fun W2 => RC W2 (.agg #[.bool (decide (Q.num < 0)), .slice p6 k6 c6, .slice p7 k7 c7]) Q) (fun W2 ho => HV.out.only ho HHX2.out (noInt_rat _ _ _ _ _ _ _))
  have kk0 : (setAll w1 X2 0 [.bool (decide (Q.num < 0)), .slice p6 k6 c6, .slice p7 k7 c7]).cell? ⟨X2, 0, none⟩ = some (.bool (decide (Q.num < 0))) := (heap_cell kh 0).trans rfl
  have kk1 : (setAll w1 X2 0 [.bool (decide (Q.num < 0)), .slice p6 k6 c6, .slice p7 k7 c7]).cell? ⟨X2, 1, none⟩ = some (.slice p6 k6 c6) := (heap_cell kh 1).trans rfl
  have kk2 : (setAll w1 X2 0 [.bool (decide (Q.num < 0)), .slice p6 k6 c6, .slice p7 k7 c7]).cell? ⟨X2, 2, none⟩ = some (.slice p7 k7 c7) := (heap_cell kh 2).trans rfl
  simp only [setAll] at kb kp kk0 kk1 kk2
  exact bodyPost_ret (v := .agg #[.bool (decide (Q.num < 0)), .slice p6 k6 c6, .slice p7 k7 c7]) (by simp [results, Tryz.results50, go_sem, kk0, kk1, kk2]) rfl ⟨_, rfl, kb, kp⟩
set_option maxHeartbeats 4000000 in
set_option maxRecDepth 100000 in
theorem mk_rdiv {w : World} {a b : Value} {x y : Rat} {i j : Nat} (ha : RS i w a x) (hb : RS j w b y) (hl : i + j < LimK) (h0 : y ≠ 0) : Calls Tryz.prog 87 #[a, b] w (Makes w fun v w' => ∃ u, v = .tuple #[u, .int .i64 0] ∧ RC w' u (x / y)) := by
  have hx := ha.2
  have hy := hb.2
  have fx := hx.fit (by omega)
  have fy := hy.fit (by omega)
  have HGA := Lib.hid (fun X (hX : Bel w X) => mk_rgood (ha.1.bel hX))
  have HGB := Lib.hid (fun X (hX : Bel w X) => mk_rgood (hb.1.bel hX))
  have e1 : (x.num * (y.den : Int)).natAbs < B64 ^ (i + j) := natAbs_mul_lt hx.1 hy.2
  have e2 : (y.num * (x.den : Int)).natAbs < B64 ^ (i + j) := by rw [Nat.add_comm]; exact natAbs_mul_lt hy.1 hx.2
  have lk : i + j + 1 < 400000000 := by unfold LimK at hl; omega
  have HM1 : Hid (∀ X u v, ZC X u x.num → ZC X v (y.den : Int) → _) := fun X u v hu hv => mk_zmul (w := X) (hu.zi fx.1) (hv.zi (by rw [Int.natAbs_natCast]; exact fy.2)) (fit_of e1 (by omega))
  have HM2 : Hid (∀ X u v, ZC X u y.num → ZC X v (x.den : Int) → _) := fun X u v hu hv => mk_zmul (w := X) (hu.zi fy.1) (hv.zi (by rw [Int.natAbs_natCast]; exact fx.2)) (fit_of e2 (by omega))
  have hn0 : y.num * (x.den : Int) ≠ 0 := Int.mul_ne_zero (fun h => h0 (Rat.num_eq_zero.1 h)) (Int.natCast_ne_zero.2 x.den_nz)
  have HC : Hid (∀ X u v, ZC X u (x.num * (y.den : Int)) → ZC X v (y.num * (x.den : Int)) → _) := fun X u v hu hv => mk_make (w := X) (hu.zi (fit_of e1 (by omega))) (hv.zi (fit_of e2 (by omega))) hn0
  rw [← rat_div] at HC
  obtain ⟨Z1, hZ1⟩ : ∃ Z, x.num * (y.den : Int) = Z := ⟨_, rfl⟩
  obtain ⟨Z2, hZ2⟩ : ∃ Z, y.num * (x.den : Int) = Z := ⟨_, rfl⟩
  rw [hZ1] at HM1 HC
  rw [hZ2] at HM2 HC
  obtain ⟨R, hR⟩ : ∃ R, x / y = R := ⟨_, rfl⟩
  rw [hR] at HC ⊢
  obtain ⟨s1, p1, k1, c1, p2, k2, c2, m1, m2, rfl, -⟩ := ha.1.slice
  obtain ⟨s2, p3, k3, c3, p4, k4, c4, m3, m4, rfl, -⟩ := hb.1.slice
  clear ha hb hx hy hl fx fy e1 e2 lk hZ1 hZ2 hR hn0 h0
  go_enter Tryz.func87, Tryz.ntmps87
  go_upto_region 1 with fail
  obtain ⟨hX2, hX3, hX4, hbw⟩ := boxes3 w (.cells #[.bool s1, .slice p1 k1 c1, .slice p2 k2 c2] 26) (.cells #[.bool s2, .slice p3 k3 c3, .slice p4 k4 c4] 26) (.cells #[.bool false, .slice none 0 0, .slice none 0 0] 26)
  obtain ⟨W, hW⟩ : ∃ W, ((w.alloc (.cells #[.bool s1, .slice p1 k1 c1, .slice p2 k2 c2] 26)).alloc (.cells #[.bool s2, .slice p3 k3 c3, .slice p4 k4 c4] 26)).alloc (.cells #[.bool false, .slice none 0 0, .slice none 0 0] 26) = W := ⟨_, rfl⟩
  rw [hW] at hX2 hX3 hX4 hbw ⊢
  obtain ⟨X2, eX2⟩ : ∃ X, w.heap.size = X := ⟨_, rfl⟩
  obtain ⟨X3, eX3⟩ : ∃ X, X2 + 1 = X := ⟨_, rfl⟩
  obtain ⟨X4, eX4⟩ : ∃ X, X3 + 1 = X := ⟨_, rfl⟩
  rw [eX2, eX3, eX4]
  rw [eX2] at hX2 hX3 hX4
  rw [eX3] at hX3 hX4
  rw [eX4] at hX4
  have HX2 := Lib.hid hX2
  have HX3 := Lib.hid hX3
  have HX4 := Lib.hid hX4
  have HBW := Lib.hid hbw
  have HGEX2 : Hid (w.heap.size ≤ X2) := by unfold Hid; omega
  have HGEX3 : Hid (w.heap.size ≤ X3) := by unfold Hid; omega
  have HGEX4 : Hid (w.heap.size ≤ X4) := by unfold Hid; omega
  have HLT : Hid (X2 < X3 ∧ X3 < X4) := by unfold Hid; omega
  clear hW hbw hX2 hX3 hX4 eX2 eX3 eX4
  refine region_flow 4 [[], [0], [], [2]] [.is (.agg #[.bool s1, .slice p1 k1 c1, .slice p2 k2 c2]), .has (fun v w => RC w v x), .is (.agg #[.bool s2, .slice p3 k3 c3, .slice p4 k4 c4]), .has (fun v w => RC w v y)] (by kernel_rfl) (by kernel_rfl) rfl (by simp only [Steady]; exact ⟨fun _ _ _ h hb => h.bel hb, fun _ _ _ h hb => h.bel hb, trivial⟩) ?_
  simp only [List.take_succ_cons, List.take_zero, List.drop_succ_cons, List.drop_zero]
  refine fV (by rfl) (by intro w1 hw1 hk1; obtain ⟨c0, c1, c2⟩ := boxc3 (hw1.heap HX2.out); go_simp) ?_
  simp only [Act.put, sA, sB, sC]
  refine fH (by rfl) (by intro w1 hw1 hk1; exact HGA.out _ (HBW.out.trans hw1)) (by intro; go_simp) (fun v1 => ?_)
  simp only [Act.put, sA, sB, sC]
  refine fV (by rfl) (by intro w1 hw1 hk1; obtain ⟨c0, c1, c2⟩ := boxc3 (hw1.heap HX3.out); go_simp) ?_
  simp only [Act.put, sA, sB, sC]
  refine fH (by rfl) (by intro w1 hw1 hk1; exact HGB.out _ (HBW.out.trans hw1)) (by intro; go_simp) (fun v3 => ?_)
  simp only [Act.put, sA, sB, sC]
  intro w1 hw1 hk1
  obtain ⟨g3, g1, -⟩ := hk1
  obtain ⟨q1, j1, d1, q2, j2, d2, rfl, -⟩ := g1.slice
  obtain ⟨q3, j3, d3, q4, j4, d4, rfl, -⟩ := g3.slice
  have hX23 : X2 ≠ X3 := by have := HLT.out; omega
  have y2 := hw1.heap HX2.out
  have y3 := hw1.heap HX3.out
  have a0 : w1.cell? ⟨X2, 0, none⟩ = some (.bool s1) := (heap_cell y2 0).trans rfl
  have a1 : w1.cell? ⟨X2, 1, none⟩ = some (.slice p1 k1 c1) := (heap_cell y2 1).trans rfl
  have a2 : w1.cell? ⟨X2, 2, none⟩ = some (.slice p2 k2 c2) := (heap_cell y2 2).trans rfl
  have a3 : w1.frozen? ⟨X2, 0, none⟩ = false := heap_frozen y2 0
  have a4 : w1.frozen? ⟨X2, 1, none⟩ = false := heap_frozen y2 1
  have a5 : w1.frozen? ⟨X2, 2, none⟩ = false := heap_frozen y2 2
  have b0 : w1.cell? ⟨X3, 0, none⟩ = some (.bool s2) := (heap_cell y3 0).trans rfl
  have b1 : w1.cell? ⟨X3, 1, none⟩ = some (.slice p3 k3 c3) := (heap_cell y3 1).trans rfl
  have b2 : w1.cell? ⟨X3, 2, none⟩ = some (.slice p4 k4 c4) := (heap_cell y3 2).trans rfl
  have b3 : w1.frozen? ⟨X3, 0, none⟩ = false := heap_frozen y3 0
  have b4 : w1.frozen? ⟨X3, 1, none⟩ = false := heap_frozen y3 1
  have b5 : w1.frozen? ⟨X3, 2, none⟩ = false := heap_frozen y3 2
  obtain ⟨sx, hsx⟩ : ∃ s, decide (x.num < 0) = s := ⟨_, rfl⟩
  obtain ⟨sy, hsy⟩ : ∃ s, decide (y.num < 0) = s := ⟨_, rfl⟩
  rw [hsx] at g1 ⊢
  rw [hsy] at g3 ⊢
  have HSX := Lib.hid hsx
  have HSY := Lib.hid hsy
  have ST := Lib.hid (fun W' hW' => rstore_two (s := sx) (t := sy) y2 y3 hX23 (noInt_rat _ _ _ _ _ _ _) (noInt_rat _ _ _ _ _ _ _) g1 g3 (HBW.out.trans hw1) HGEX2.out HGEX3.out (W := W') hW')
  have HW1 := Lib.hid hw1
  clear g1 g3 hw1 hsx hsy y2 y3 HX2 HX3 HGA HGB
  go_upto_region 2 with fail
  obtain ⟨W2, hW2⟩ : ∃ W', (((((w1.setCell ⟨X2, 0, none⟩ (.bool sx)).setCell ⟨X2, 1, none⟩ (.slice q1 j1 d1)).setCell ⟨X2, 2, none⟩ (.slice q2 j2 d2)).setCell ⟨X3, 0, none⟩ (.bool sy)).setCell ⟨X3, 1, none⟩ (.slice q3 j3 d3)).setCell ⟨X3, 2, none⟩ (.slice q4 j4 d4) = W' := ⟨_, rfl⟩
  rw [hW2]
  obtain ⟨h2, h3, hr2, hr3, hbw, hoth⟩ := ST.out W2 hW2.symm
  have HX2 := Lib.hid h2
  have HX3 := Lib.hid h3
  have HR2 := Lib.hid hr2
  have HR3 := Lib.hid hr3
  have HBW2 := Lib.hid hbw
  have HOTH := Lib.hid hoth
  clear a0 a1 a2 a3 a4 a5 b0 b1 b2 b3 b4 b5 h2 h3 hr2 hr3 hbw hoth hW2 ST hX23
  have HX4' := Lib.hid ((HOTH.out X4 (by have := HLT.out; omega) (by have := HLT.out; omega)).trans (HW1.out.heap HX4.out))
  clear HX4
  have HX4 := HX4'
  clear HX4'
  refine region_flow 13 [[], [0], [], [2], [1, 3], [], [5], [], [7], [6, 8], [4, 9], [10], [10]] [.is (.pointer (some ⟨X2, 0, none⟩)), .is (.agg #[.bool sx, .slice q1 j1 d1]), .is (.agg #[.bool sy, .slice q3 j3 d3, .slice q4 j4 d4]), .has (fun v w => ZC w v (y.den : Int)), .has (fun v w => ZC w v Z1), .is (.pointer (some ⟨X3, 0, none⟩)), .is (.agg #[.bool sy, .slice q3 j3 d3]), .is (.agg #[.bool sx, .slice q1 j1 d1, .slice q2 j2 d2]), .has (fun v w => ZC w v (x.den : Int)), .has (fun v w => ZC w v Z2), .has (fun v w => ∃ u, v = .tuple #[u, .int .i64 0] ∧ RC w u R), .has (fun v w => RC w v R), .is (.int .i64 0)] (by kernel_rfl) (by kernel_rfl) rfl (by simp only [Steady]; exact ⟨fun _ _ _ h hb => h.bel hb, fun _ _ _ h hb => h.bel hb, fun _ _ _ h hb => h.bel hb, fun _ _ _ h hb => h.bel hb, fun _ _ _ h hb => by obtain ⟨u, h1, h2⟩ := h; exact ⟨u, h1, h2.bel hb⟩, fun _ _ _ h hb => h.bel hb, trivial⟩) ?_
  simp only [List.take_succ_cons, List.take_zero, List.drop_succ_cons, List.drop_zero]
  refine fV (by rfl) (by intro w1 hw1 hk1; go_simp) ?_
  simp only [Act.put, sA, sB, sC]
  refine fV (by rfl) (by intro w1 hw1 hk1; obtain ⟨c0, c1, -⟩ := boxc3 (hw1.heap HX2.out); go_simp) ?_
  simp only [Act.put, sA, sB, sC]
  refine fV (by rfl) (by intro w1 hw1 hk1; obtain ⟨c0, c1, c2⟩ := boxc3 (hw1.heap HX3.out); go_simp) ?_
  simp only [Act.put, sA, sB, sC]
  refine fH (by rfl) (by intro w1 hw1 hk1; exact mk_over (HR3.out.bel hw1)) (by intro; go_simp) (fun v3 => ?_)
  simp only [Act.put, sA, sB, sC]
  refine fH (by rfl) (by intro w1 hw1 hk1; obtain ⟨g3, -⟩ := hk1; exact HM1.out _ _ _ (num_of (HR2.out.bel hw1)) g3) (by intro; go_simp) (fun v4 => ?_)
  simp only [Act.put, sA, sB, sC]
  refine fV (by rfl) (by intro w1 hw1 hk1; go_simp) ?_
  simp only [Act.put, sA, sB, sC]
  refine fV (by rfl) (by intro w1 hw1 hk1; obtain ⟨c0, c1, -⟩ := boxc3 (hw1.heap HX3.out); go_simp) ?_
  simp only [Act.put, sA, sB, sC]
  refine fV (by rfl) (by intro w1 hw1 hk1; obtain ⟨c0, c1, c2⟩ := boxc3 (hw1.heap HX2.out); go_simp) ?_
  simp only [Act.put, sA, sB, sC]
  refine fH (by rfl) (by intro w1 hw1 hk1; exact mk_over (HR2.out.bel hw1)) (by intro; go_simp) (fun v8 => ?_)
  simp only [Act.put, sA, sB, sC]
  refine fH (by rfl) (by intro w1 hw1 hk1; obtain ⟨g8, -, -, -⟩ := hk1; exact HM2.out _ _ _ (num_of (HR3.out.bel hw1)) g8) (by intro; go_simp) (fun v9 => ?_)
  simp only [Act.put, sA, sB, sC]
  refine fH (by rfl) (by intro w1 hw1 hk1; obtain ⟨g9, -, g4, -, -⟩ := hk1; exact HC.out _ _ _ g4 g9) (by intro; go_simp) (fun v10 => ?_)
  simp only [Act.put, sA, sB, sC]
  refine flow_has (by intro w1 hw1 hk1; obtain ⟨g10, -, -, -, -, -⟩ := hk1; obtain ⟨u, rfl, h⟩ := g10; refine want (by rfl) (gives_of (c := u) (by go_simp) ?_); exact h) (fun v11 => ?_)
  simp only [Act.put, sA, sB, sC]
  refine flow_is (by intro w1 hw1 hk1; obtain ⟨-, g10, -, -, -, -, -⟩ := hk1; obtain ⟨u, rfl, h⟩ := g10; refine want (by rfl) (gives_val ?_); go_simp) ?_
  simp only [Act.put, sA, sB, sC]
  intro w1 hw1 hk1
  obtain ⟨g11, g10, g9, g8, g4, g3, -⟩ := hk1
  obtain ⟨p6, k6, c6, p7, k7, c7, rfl, -⟩ := g11.slice
  have HV := Lib.hid g11
  have HB3 := Lib.hid hw1
  have hhX4 := (hw1).heap HX4.out
  have HHX4 := Lib.hid hhX4
  have dX40 : w1.cell? ⟨X4, 0, none⟩ = some (.bool false) := (heap_cell hhX4 0).trans rfl
  have fX40 : w1.frozen? ⟨X4, 0, none⟩ = false := heap_frozen hhX4 0
  have dX41 : w1.cell? ⟨X4, 1, none⟩ = some (.slice none 0 0) := (heap_cell hhX4 1).trans rfl
  have fX41 : w1.frozen? ⟨X4, 1, none⟩ = false := heap_frozen hhX4 1
  have dX42 : w1.cell? ⟨X4, 2, none⟩ = some (.slice none 0 0) := (heap_cell hhX4 2).trans rfl
  have fX42 : w1.frozen? ⟨X4, 2, none⟩ = false := heap_frozen hhX4 2
  clear hhX4
  clear hw1 g11 g10 g9 g8 g4 g3
  go_wp2
  obtain ⟨kb, kp, kh⟩ := finAll (vs := [.bool (decide (R.num < 0)), .slice p6 k6 c6, .slice p7 k7 c7]) (HBW2.out.trans HB3.out) HHX4.out rfl HGEX4.out (Φ := fun W2 => RC W2 (.agg #[.bool (decide (R.num < 0)), .slice p6 k6 c6, .slice p7 k7 c7]) R) (fun W2 ho => HV.out.only ho HHX4.out (noInt_rat _ _ _ _ _ _ _))
  have kk0 : (setAll w1 X4 0 [.bool (decide (R.num < 0)), .slice p6 k6 c6, .slice p7 k7 c7]).cell? ⟨X4, 0, none⟩ = some (.bool (decide (R.num < 0))) := (heap_cell kh 0).trans rfl
  have kk1 : (setAll w1 X4 0 [.bool (decide (R.num < 0)), .slice p6 k6 c6, .slice p7 k7 c7]).cell? ⟨X4, 1, none⟩ = some (.slice p6 k6 c6) := (heap_cell kh 1).trans rfl
  have kk2 : (setAll w1 X4 0 [.bool (decide (R.num < 0)), .slice p6 k6 c6, .slice p7 k7 c7]).cell? ⟨X4, 2, none⟩ = some (.slice p7 k7 c7) := (heap_cell kh 2).trans rfl
  simp only [setAll] at kb kp kk0 kk1 kk2
  exact bodyPost_ret (v := .tuple #[.agg #[.bool (decide (R.num < 0)), .slice p6 k6 c6, .slice p7 k7 c7], .int .i64 0]) (by simp [results, Tryz.results87, go_sem, kk0, kk1, kk2]) rfl ⟨_, rfl, kb, _, rfl, kp⟩
end Go.Proofs.YtafmfnpjhhaikaaGreatDoor
