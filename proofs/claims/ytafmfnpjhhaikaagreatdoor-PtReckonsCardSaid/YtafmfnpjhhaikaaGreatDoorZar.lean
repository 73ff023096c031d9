/-
  gessoref06: Of, Out; gessolaw06.P (printed by gen_rek.py).
-/
import Derived.Test.YtafmfnpjhhaikaaGreatDoorZaq
import Derived.RangeFuncNested
import Derived.RangeFuncBound
import Derived.RangeFuncCalls
import Derived.RangeFuncLeaves
import Derived.RangeFuncBox
import Derived.Shelf.Abstract
import Derived.Shelf.RegionOpen
import Derived.OwnWalkIn
import Derived.TacticsInMore
import Derived.LoopNIn
import Derived.LoopIn
namespace Go.Proofs.YtafmfnpjhhaikaaGreatDoor
open Go.RowKit Go.Shelf
/-- A point of the reference. -/
def RP (w : World) (v : Value) (x y : Rat) : Prop := ∃ s1 u1 d1 s2 u2 d2, v = .agg #[s1, u1, d1, s2, u2, d2] ∧ RQ w (.agg #[s1, u1, d1]) x ∧ RQ w (.agg #[s2, u2, d2]) y
theorem RP.bel {w w' : World} {v : Value} {x y : Rat} (h : RP w v x y) (hb : Bel w w') : RP w' v x y := by
  obtain ⟨s1, u1, d1, s2, u2, d2, h0, h1, h2⟩ := h
  exact ⟨s1, u1, d1, s2, u2, d2, h0, h1.bel hb, h2.bel hb⟩
theorem RP.only {w w' : World} {b t : Nat} {v : Value} {cs : Array Value} {fr : Nat × Nat} {x y : Rat} (h : RP w v x y) (ho : OnlyG b w w') (hb : w.heap[b]? = some (.cells cs t fr)) (hn : NoInt .u32 cs) : RP w' v x y := by
  obtain ⟨s1, u1, d1, s2, u2, d2, h0, h1, h2⟩ := h
  exact ⟨s1, u1, d1, s2, u2, d2, h0, h1.only ho hb hn, h2.only ho hb hn⟩
theorem noInt_pt32 (s : Bool) (p p' : Option Addr) (n c n' c' : Nat) (s2 : Bool) (p2 p2' : Option Addr) (n2 c2 n2' c2' : Nat) : NoInt .u32 #[.bool s, .slice p n c, .slice p' n' c', .bool s2, .slice p2 n2 c2, .slice p2' n2' c2'] := by
  intro v hv x
  simp at hv
  rcases hv with rfl | rfl | rfl | rfl | rfl | rfl <;> simp
theorem RP.slice {w : World} {v : Value} {x y : Rat} (h : RP w v x y) : ∃ p1 k1 c1 p2 k2 c2 p3 k3 c3 p4 k4 c4, v = .agg #[.bool (decide (x.num < 0)), .slice p1 k1 c1, .slice p2 k2 c2, .bool (decide (y.num < 0)), .slice p3 k3 c3, .slice p4 k4 c4] ∧
    RQ w (.agg #[.bool (decide (x.num < 0)), .slice p1 k1 c1, .slice p2 k2 c2]) x ∧ RQ w (.agg #[.bool (decide (y.num < 0)), .slice p3 k3 c3, .slice p4 k4 c4]) y := by
  obtain ⟨s1, u1, d1, s2, u2, d2, rfl, h1, h2⟩ := h
  obtain ⟨p1, k1, c1, p2, k2, c2, e1, -, -⟩ := h1.slice
  obtain ⟨p3, k3, c3, p4, k4, c4, e2, -, -⟩ := h2.slice
  simp only [Value.agg.injEq, Array.mk.injEq, List.cons.injEq, and_true] at e1 e2
  obtain ⟨rfl, rfl, rfl⟩ := e1
  obtain ⟨rfl, rfl, rfl⟩ := e2
  exact ⟨p1, k1, c1, p2, k2, c2, p3, k3, c3, p4, k4, c4, rfl, h1, h2⟩
theorem mk_r3of1 {p : Int} (hp1 : -9223372036854775808 ≤ p) (hp2 : p < 9223372036854775808) (w : World) : Calls Tryz.prog 106 #[.int .i64 p, .int .i64 1] w (Makes w fun v w' => RQ w' v (mkRat p 1)) :=
  mk_r3of (q := 1) hp1 hp2 (by decide) (by decide) w
set_option maxHeartbeats 4000000 in
set_option maxRecDepth 100000 in
theorem mk_r6of {x y : Int} (hx1 : -9223372036854775808 ≤ x) (hx2 : x < 9223372036854775808) (hy1 : -9223372036854775808 ≤ y) (hy2 : y < 9223372036854775808) (w : World) : Calls Tryz.prog 89 #[.int .i64 x, .int .i64 y] w (Makes w fun v w' => RP w' v (mkRat x 1) (mkRat y 1)) := by
  have H1 := Lib.hid (mk_r3of1 hx1 hx2)
  have H2 := Lib.hid (mk_r3of1 hy1 hy2)
  obtain ⟨R1, hR1⟩ : ∃ Z, mkRat x 1 = Z := ⟨_, rfl⟩
  obtain ⟨R2, hR2⟩ : ∃ Z, mkRat y 1 = Z := ⟨_, rfl⟩
  rw [hR1] at H1 ⊢
  rw [hR2] at H2 ⊢
  clear hR1 hR2 hx1 hx2 hy1 hy2
  go_enter Tryz.func89, Tryz.ntmps89
  go_upto_region 1 with fail
  obtain ⟨hXR, hbw⟩ := boxes1 w (.cells #[.bool false, .slice none 0 0, .slice none 0 0, .bool false, .slice none 0 0, .slice none 0 0] 39)
  obtain ⟨W, hW⟩ : ∃ W, w.alloc (.cells #[.bool false, .slice none 0 0, .slice none 0 0, .bool false, .slice none 0 0, .slice none 0 0] 39) = W := ⟨_, rfl⟩
  rw [hW] at hXR hbw ⊢
  obtain ⟨XR, eXR⟩ : ∃ X, w.heap.size = X := ⟨_, rfl⟩
  rw [eXR]
  rw [eXR] at hXR
  have HXR := Lib.hid hXR
  have HBW := Lib.hid hbw
  have HGEXR : Hid (w.heap.size ≤ XR) := by unfold Hid; omega
  clear hW hbw hXR eXR
  refine line_region 5 [[], [0], [], [2], [1, 3]] [.is (.int .i64 x), .has (fun v w => RQ w v R1), .is (.int .i64 y), .has (fun v w => RQ w v R2), .has (fun v w => RP w v R1 R2)] rfl rfl (by decide) (by simp only [Steady]; exact ⟨fun _ _ _ h hb => h.bel hb, fun _ _ _ h hb => h.bel hb, fun _ _ _ h hb => h.bel hb, trivial⟩) ?_
  simp only [List.take_succ_cons, List.take_zero, List.drop_succ_cons, List.drop_zero]
  refine fV (by rfl) (by intro w1 hw1 hk1; go_simp) ?_
  simp only [Act.put, sA, sB, sC]
  refine fH (by rfl) (by intro w1 hw1 hk1; exact H1.out _) (by intro; go_simp) (fun v1 => ?_)
  simp only [Act.put, sA, sB, sC]
  refine fV (by rfl) (by intro w1 hw1 hk1; go_simp) ?_
  simp only [Act.put, sA, sB, sC]
  refine fH (by rfl) (by intro w1 hw1 hk1; exact H2.out _) (by intro; go_simp) (fun v3 => ?_)
  simp only [Act.put, sA, sB, sC]
  refine flow_has (by intro w1 hw1 hk1; obtain ⟨g3, g1, -⟩ := hk1; obtain ⟨p1, k1, c1, p2, k2, c2, rfl, -⟩ := g1.slice; obtain ⟨p3, k3, c3, p4, k4, c4, rfl, -⟩ := g3.slice; refine want (by rfl) (gives_of (c := .agg #[.bool (decide (R1.num < 0)), .slice p1 k1 c1, .slice p2 k2 c2, .bool (decide (R2.num < 0)), .slice p3 k3 c3, .slice p4 k4 c4]) (by go_simp) ?_); exact ⟨_, _, _, _, _, _, rfl, g1, g3⟩) (fun v4 => ?_)
  simp only [Act.put, sA, sB, sC]
  intro w1 hw1 hk1
  obtain ⟨g4, g3, g1, -⟩ := hk1
  obtain ⟨pr1, kr1, cr1, qr1, jr1, dr1, pr2, kr2, cr2, qr2, jr2, dr2, rfl, -, -⟩ := g4.slice
  have HV := Lib.hid g4
  have HB3 := Lib.hid hw1
  have hhXR := (HB3.out).heap HXR.out
  have HHXR := Lib.hid hhXR
  have dXR0 : w1.cell? ⟨XR, 0, none⟩ = some (.bool false) := (heap_cell hhXR 0).trans rfl
  have fXR0 : w1.frozen? ⟨XR, 0, none⟩ = false := heap_frozen hhXR 0
  have dXR1 : w1.cell? ⟨XR, 1, none⟩ = some (.slice none 0 0) := (heap_cell hhXR 1).trans rfl
  have fXR1 : w1.frozen? ⟨XR, 1, none⟩ = false := heap_frozen hhXR 1
  have dXR2 : w1.cell? ⟨XR, 2, none⟩ = some (.slice none 0 0) := (heap_cell hhXR 2).trans rfl
  have fXR2 : w1.frozen? ⟨XR, 2, none⟩ = false := heap_frozen hhXR 2
  have dXR3 : w1.cell? ⟨XR, 3, none⟩ = some (.bool false) := (heap_cell hhXR 3).trans rfl
  have fXR3 : w1.frozen? ⟨XR, 3, none⟩ = false := heap_frozen hhXR 3
  have dXR4 : w1.cell? ⟨XR, 4, none⟩ = some (.slice none 0 0) := (heap_cell hhXR 4).trans rfl
  have fXR4 : w1.frozen? ⟨XR, 4, none⟩ = false := heap_frozen hhXR 4
  have dXR5 : w1.cell? ⟨XR, 5, none⟩ = some (.slice none 0 0) := (heap_cell hhXR 5).trans rfl
  have fXR5 : w1.frozen? ⟨XR, 5, none⟩ = false := heap_frozen hhXR 5
  clear hhXR
  clear hw1 g4 g3 g1
  go_wp2
  obtain ⟨kb, kp, kh⟩ := finAll (vs := [.bool (decide (R1.num < 0)), .slice pr1 kr1 cr1, .slice qr1 jr1 dr1, .bool (decide (R2.num < 0)), .slice pr2 kr2 cr2, .slice qr2 jr2 dr2]) (HBW.out.trans HB3.out) HHXR.out rfl HGEXR.out (Φ := fun W2 => RP W2 (.agg #[.bool (decide (R1.num < 0)), .slice pr1 kr1 cr1, .slice qr1 jr1 dr1, .bool (decide (R2.num < 0)), .slice pr2 kr2 cr2, .slice qr2 jr2 dr2]) R1 R2) (fun W2 ho => HV.out.only ho HHXR.out (noInt_pt32 _ _ _ _ _ _ _ _ _ _ _ _ _ _))
  have kk0 : (setAll w1 XR 0 [.bool (decide (R1.num < 0)), .slice pr1 kr1 cr1, .slice qr1 jr1 dr1, .bool (decide (R2.num < 0)), .slice pr2 kr2 cr2, .slice qr2 jr2 dr2]).cell? ⟨XR, 0, none⟩ = some (.bool (decide (R1.num < 0))) := (heap_cell kh 0).trans rfl
  have kk1 : (setAll w1 XR 0 [.bool (decide (R1.num < 0)), .slice pr1 kr1 cr1, .slice qr1 jr1 dr1, .bool (decide (R2.num < 0)), .slice pr2 kr2 cr2, .slice qr2 jr2 dr2]).cell? ⟨XR, 1, none⟩ = some (.slice pr1 kr1 cr1) := (heap_cell kh 1).trans rfl
  have kk2 : (setAll w1 XR 0 [.bool (decide (R1.num < 0)), .slice pr1 kr1 cr1, .slice qr1 jr1 dr1, .bool (decide (R2.num < 0)), .slice pr2 kr2 cr2, .slice qr2 jr2 dr2]).cell? ⟨XR, 2, none⟩ = some (.slice qr1 jr1 dr1) := (heap_cell kh 2).trans rfl
  have kk3 : (setAll w1 XR 0 [.bool (decide (R1.num < 0)), .slice pr1 kr1 cr1, .slice qr1 jr1 dr1, .bool (decide (R2.num < 0)), .slice pr2 kr2 cr2, .slice qr2 jr2 dr2]).cell? ⟨XR, 3, none⟩ = some (.bool (decide (R2.num < 0))) := (heap_cell kh 3).trans rfl
  have kk4 : (setAll w1 XR 0 [.bool (decide (R1.num < 0)), .slice pr1 kr1 cr1, .slice qr1 jr1 dr1, .bool (decide (R2.num < 0)), .slice pr2 kr2 cr2, .slice qr2 jr2 dr2]).cell? ⟨XR, 4, none⟩ = some (.slice pr2 kr2 cr2) := (heap_cell kh 4).trans rfl
  have kk5 : (setAll w1 XR 0 [.bool (decide (R1.num < 0)), .slice pr1 kr1 cr1, .slice qr1 jr1 dr1, .bool (decide (R2.num < 0)), .slice pr2 kr2 cr2, .slice qr2 jr2 dr2]).cell? ⟨XR, 5, none⟩ = some (.slice qr2 jr2 dr2) := (heap_cell kh 5).trans rfl
  simp only [setAll] at kb kp kk0 kk1 kk2 kk3 kk4 kk5
  exact bodyPost_ret (v := .agg #[.bool (decide (R1.num < 0)), .slice pr1 kr1 cr1, .slice qr1 jr1 dr1, .bool (decide (R2.num < 0)), .slice pr2 kr2 cr2, .slice qr2 jr2 dr2]) (by simp [results, Tryz.results89, go_sem, kk0, kk1, kk2, kk3, kk4, kk5]) rfl ⟨_, rfl, kb, kp⟩
set_option maxHeartbeats 4000000 in
set_option maxRecDepth 100000 in
theorem mk_r6out {w : World} {a : Value} {x y : Rat} (ha : RP w a x y) (hx1 : (limB B32 x.num.natAbs).length < 1000000000) (hx2 : (limB B32 x.den).length < 1000000000) (hy1 : (limB B32 y.num.natAbs).length < 1000000000) (hy2 : (limB B32 y.den).length < 1000000000) :
    Calls Tryz.prog 19 #[a] w (Makes w fun v w' => PC w' v x y) := by
  obtain ⟨m1, n1, e1, m2, n2, e2, m3, n3, e3, m4, n4, e4, rfl, hu, hd⟩ := ha.slice
  have H1 := Lib.hid (fun X (hX : Bel w X) => mk_r3out (hu.bel hX) hx1 hx2)
  have H2 := Lib.hid (fun X (hX : Bel w X) => mk_r3out (hd.bel hX) hy1 hy2)
  obtain ⟨s1, hs1⟩ : ∃ s, decide (x.num < 0) = s := ⟨_, rfl⟩
  obtain ⟨s2, hs2⟩ : ∃ s, decide (y.num < 0) = s := ⟨_, rfl⟩
  rw [hs1] at H1 ⊢
  rw [hs2] at H2 ⊢
  obtain ⟨R1, hR1⟩ : ∃ Z, x = Z := ⟨_, rfl⟩
  obtain ⟨R2, hR2⟩ : ∃ Z, y = Z := ⟨_, rfl⟩
  rw [hR1] at H1 ⊢
  rw [hR2] at H2 ⊢
  clear ha hu hd hx1 hx2 hy1 hy2 hs1 hs2 hR1 hR2
  go_enter Tryz.func19, Tryz.ntmps19
  go_upto_region 1 with fail
  obtain ⟨hXa, hXR, hbw⟩ := boxes2 w (.cells #[.bool s1, .slice m1 n1 e1, .slice m2 n2 e2, .bool s2, .slice m3 n3 e3, .slice m4 n4 e4] 39) (.cells #[.bool false, .slice none 0 0, .slice none 0 0, .bool false, .slice none 0 0, .slice none 0 0] 28)
  obtain ⟨W, hW⟩ : ∃ W, (w.alloc (.cells #[.bool s1, .slice m1 n1 e1, .slice m2 n2 e2, .bool s2, .slice m3 n3 e3, .slice m4 n4 e4] 39)).alloc (.cells #[.bool false, .slice none 0 0, .slice none 0 0, .bool false, .slice none 0 0, .slice none 0 0] 28) = W := ⟨_, rfl⟩
  rw [hW] at hXa hXR hbw ⊢
  obtain ⟨Xa, eXa⟩ : ∃ X, w.heap.size = X := ⟨_, rfl⟩
  obtain ⟨XR, eXR⟩ : ∃ X, Xa + 1 = X := ⟨_, rfl⟩
  rw [eXa, eXR]
  rw [eXa] at hXa hXR
  rw [eXR] at hXR
  have HXa := Lib.hid hXa
  have HXR := Lib.hid hXR
  have HBW := Lib.hid hbw
  have HGEXa : Hid (w.heap.size ≤ Xa) := by unfold Hid; omega
  have HGEXR : Hid (w.heap.size ≤ XR) := by unfold Hid; omega
  have HLT : Hid (Xa < XR) := by unfold Hid; omega
  clear hW hbw hXa hXR eXa eXR
  refine region_flow 7 [[], [0], [1], [], [3], [4], [2, 5]] [.is (.pointer (some ⟨Xa, 0, none⟩)), .is (.agg #[.bool s1, .slice m1 n1 e1, .slice m2 n2 e2]), .has (fun v w => RC w v R1), .is (.pointer (some ⟨Xa, 3, none⟩)), .is (.agg #[.bool s2, .slice m3 n3 e3, .slice m4 n4 e4]), .has (fun v w => RC w v R2), .has (fun v w => PC w v R1 R2)] (by kernel_rfl) (by kernel_rfl) rfl (by simp only [Steady]; exact ⟨fun _ _ _ h hb => h.bel hb, fun _ _ _ h hb => h.bel hb, fun _ _ _ h hb => h.bel hb, trivial⟩) ?_
  simp only [List.take_succ_cons, List.take_zero, List.drop_succ_cons, List.drop_zero]
  refine fV (by rfl) (by intro w1 hw1 hk1; go_simp) ?_
  simp only [Act.put, sA, sB, sC]
  refine fV (by rfl) (by intro w1 hw1 hk1; obtain ⟨c0, c1, c2, -, -, -⟩ := boxc6 (hw1.heap HXa.out); go_simp) ?_
  simp only [Act.put, sA, sB, sC]
  refine fH (by rfl) (by intro w1 hw1 hk1; exact H1.out _ (HBW.out.trans hw1)) (by intro; go_simp) (fun v2 => ?_)
  simp only [Act.put, sA, sB, sC]
  refine fV (by rfl) (by intro w1 hw1 hk1; go_simp) ?_
  simp only [Act.put, sA, sB, sC]
  refine fV (by rfl) (by intro w1 hw1 hk1; obtain ⟨-, -, -, c3, c4, c5⟩ := boxc6 (hw1.heap HXa.out); go_simp) ?_
  simp only [Act.put, sA, sB, sC]
  refine fH (by rfl) (by intro w1 hw1 hk1; exact H2.out _ (HBW.out.trans hw1)) (by intro; go_simp) (fun v5 => ?_)
  simp only [Act.put, sA, sB, sC]
  refine flow_has (by intro w1 hw1 hk1; obtain ⟨g5, g2, -⟩ := hk1; obtain ⟨p1, k1, c1, p2, k2, c2, rfl, -⟩ := g2.slice; obtain ⟨p3, k3, c3, p4, k4, c4, rfl, -⟩ := g5.slice; refine want (by rfl) (gives_of (c := .agg #[.bool (decide (R1.num < 0)), .slice p1 k1 c1, .slice p2 k2 c2, .bool (decide (R2.num < 0)), .slice p3 k3 c3, .slice p4 k4 c4]) (by go_simp) ?_); exact ⟨_, _, _, _, _, _, rfl, g2, g5⟩) (fun v6 => ?_)
  simp only [Act.put, sA, sB, sC]
  intro w1 hw1 hk1
  obtain ⟨g6, g5, g2, -⟩ := hk1
  obtain ⟨pr1, kr1, cr1, qr1, jr1, dr1, pr2, kr2, cr2, qr2, jr2, dr2, rfl, -, -⟩ := g6.slice
  have HV := Lib.hid g6
  have HB3 := Lib.hid hw1
  have hhXR := (HB3.out).heap HXR.out
  have HHXR := Lib.hid hhXR
  have dXR0 : w1.cell? ⟨XR, 0, none⟩ = some (.bool false) := (heap_cell hhXR 0).trans rfl
  have fXR0 : w1.frozen? ⟨XR, 0, none⟩ = false := heap_frozen hhXR 0
  have dXR1 : w1.cell? ⟨XR, 1, none⟩ = some (.slice none 0 0) := (heap_cell hhXR 1).trans rfl
  have fXR1 : w1.frozen? ⟨XR, 1, none⟩ = false := heap_frozen hhXR 1
  have dXR2 : w1.cell? ⟨XR, 2, none⟩ = some (.slice none 0 0) := (heap_cell hhXR 2).trans rfl
  have fXR2 : w1.frozen? ⟨XR, 2, none⟩ = false := heap_frozen hhXR 2
  have dXR3 : w1.cell? ⟨XR, 3, none⟩ = some (.bool false) := (heap_cell hhXR 3).trans rfl
  have fXR3 : w1.frozen? ⟨XR, 3, none⟩ = false := heap_frozen hhXR 3
  have dXR4 : w1.cell? ⟨XR, 4, none⟩ = some (.slice none 0 0) := (heap_cell hhXR 4).trans rfl
  have fXR4 : w1.frozen? ⟨XR, 4, none⟩ = false := heap_frozen hhXR 4
  have dXR5 : w1.cell? ⟨XR, 5, none⟩ = some (.slice none 0 0) := (heap_cell hhXR 5).trans rfl
  have fXR5 : w1.frozen? ⟨XR, 5, none⟩ = false := heap_frozen hhXR 5
  clear hhXR
  clear hw1 g6 g5 g2
  go_wp2
  obtain ⟨kb, kp, kh⟩ := finAll (vs := [.bool (decide (R1.num < 0)), .slice pr1 kr1 cr1, .slice qr1 jr1 dr1, .bool (decide (R2.num < 0)), .slice pr2 kr2 cr2, .slice qr2 jr2 dr2]) (HBW.out.trans HB3.out) HHXR.out rfl HGEXR.out (Φ := fun W2 => PC W2 (.agg #[.bool (decide (R1.num < 0)), .slice pr1 kr1 cr1, .slice qr1 jr1 dr1, .bool (decide (R2.num < 0)), .slice pr2 kr2 cr2, .slice qr2 jr2 dr2]) R1 R2) (fun W2 ho => HV.out.only ho HHXR.out (noInt_pt _ _ _ _ _ _ _ _ _ _ _ _ _ _))
  have kk0 : (setAll w1 XR 0 [.bool (decide (R1.num < 0)), .slice pr1 kr1 cr1, .slice qr1 jr1 dr1, .bool (decide (R2.num < 0)), .slice pr2 kr2 cr2, .slice qr2 jr2 dr2]).cell? ⟨XR, 0, none⟩ = some (.bool (decide (R1.num < 0))) := (heap_cell kh 0).trans rfl
  have kk1 : (setAll w1 XR 0 [.bool (decide (R1.num < 0)), .slice pr1 kr1 cr1, .slice qr1 jr1 dr1, .bool (decide (R2.num < 0)), .slice pr2 kr2 cr2, .slice qr2 jr2 dr2]).cell? ⟨XR, 1, none⟩ = some (.slice pr1 kr1 cr1) := (heap_cell kh 1).trans rfl
  have kk2 : (setAll w1 XR 0 [.bool (decide (R1.num < 0)), .slice pr1 kr1 cr1, .slice qr1 jr1 dr1, .bool (decide (R2.num < 0)), .slice pr2 kr2 cr2, .slice qr2 jr2 dr2]).cell? ⟨XR, 2, none⟩ = some (.slice qr1 jr1 dr1) := (heap_cell kh 2).trans rfl
  have kk3 : (setAll w1 XR 0 [.bool (decide (R1.num < 0)), .slice pr1 kr1 cr1, .slice qr1 jr1 dr1, .bool (decide (R2.num < 0)), .slice pr2 kr2 cr2, .slice qr2 jr2 dr2]).cell? ⟨XR, 3, none⟩ = some (.bool (decide (R2.num < 0))) := (heap_cell kh 3).trans rfl
  have kk4 : (setAll w1 XR 0 [.bool (decide (R1.num < 0)), .slice pr1 kr1 cr1, .slice qr1 jr1 dr1, .bool (decide (R2.num < 0)), .slice pr2 kr2 cr2, .slice qr2 jr2 dr2]).cell? ⟨XR, 4, none⟩ = some (.slice pr2 kr2 cr2) := (heap_cell kh 4).trans rfl
  have kk5 : (setAll w1 XR 0 [.bool (decide (R1.num < 0)), .slice pr1 kr1 cr1, .slice qr1 jr1 dr1, .bool (decide (R2.num < 0)), .slice pr2 kr2 cr2, .slice qr2 jr2 dr2]).cell? ⟨XR, 5, none⟩ = some (.slice qr2 jr2 dr2) := (heap_cell kh 5).trans rfl
  simp only [setAll] at kb kp kk0 kk1 kk2 kk3 kk4 kk5
  exact bodyPost_ret (v := .agg #[.bool (decide (R1.num < 0)), .slice pr1 kr1 cr1, .slice qr1 jr1 dr1, .bool (decide (R2.num < 0)), .slice pr2 kr2 cr2, .slice qr2 jr2 dr2]) (by simp [results, Tryz.results19, go_sem, kk0, kk1, kk2, kk3, kk4, kk5]) rfl ⟨_, rfl, kb, kp⟩
set_option maxHeartbeats 4000000 in
set_option maxRecDepth 100000 in
theorem mk_P {x y : Int} (hx1 : -9223372036854775808 ≤ x) (hx2 : x < 9223372036854775808) (hy1 : -9223372036854775808 ≤ y) (hy2 : y < 9223372036854775808) (w : World) : Calls Tryz.prog 43 #[.int .i64 x, .int .i64 y] w (Makes w fun v w' => PC w' v (mkRat x 1) (mkRat y 1)) := by
  have H1 := Lib.hid (mk_r6of hx1 hx2 hy1 hy2)
  have H2 : Hid (∀ X v, RP X v (mkRat x 1) (mkRat y 1) → _) := fun X v hv => mk_r6out hv (by rw [(whole_num x).1]; exact lim32_i64 hx1 hx2) (by rw [(whole_num x).2, lim_small b32_two (by decide) (by decide)]; decide) (by rw [(whole_num y).1]; exact lim32_i64 hy1 hy2) (by rw [(whole_num y).2, lim_small b32_two (by decide) (by decide)]; decide)
  obtain ⟨R1, hR1⟩ : ∃ Z, mkRat x 1 = Z := ⟨_, rfl⟩
  obtain ⟨R2, hR2⟩ : ∃ Z, mkRat y 1 = Z := ⟨_, rfl⟩
  rw [hR1] at H1 H2 ⊢
  rw [hR2] at H1 H2 ⊢
  clear hR1 hR2 hx1 hx2 hy1 hy2
  go_enter Tryz.func43, Tryz.ntmps43
  go_upto_region 1 with fail
  obtain ⟨hXR, hbw⟩ := boxes1 w (.cells #[.bool false, .slice none 0 0, .slice none 0 0, .bool false, .slice none 0 0, .slice none 0 0] 28)
  obtain ⟨W, hW⟩ : ∃ W, w.alloc (.cells #[.bool false, .slice none 0 0, .slice none 0 0, .bool false, .slice none 0 0, .slice none 0 0] 28) = W := ⟨_, rfl⟩
  rw [hW] at hXR hbw ⊢
  obtain ⟨XR, eXR⟩ : ∃ X, w.heap.size = X := ⟨_, rfl⟩
  rw [eXR]
  rw [eXR] at hXR
  have HXR := Lib.hid hXR
  have HBW := Lib.hid hbw
  have HGEXR : Hid (w.heap.size ≤ XR) := by unfold Hid; omega
  clear hW hbw hXR eXR
  refine line_region 4 [[], [], [0, 1], [2]] [.is (.int .i64 x), .is (.int .i64 y), .has (fun v w => RP w v R1 R2), .has (fun v w => PC w v R1 R2)] rfl rfl (by decide) (by simp only [Steady]; exact ⟨fun _ _ _ h hb => h.bel hb, fun _ _ _ h hb => h.bel hb, trivial⟩) ?_
  simp only [List.take_succ_cons, List.take_zero, List.drop_succ_cons, List.drop_zero]
  refine fV (by rfl) (by intro w1 hw1 hk1; go_simp) ?_
  simp only [Act.put, sA, sB, sC]
  refine fV (by rfl) (by intro w1 hw1 hk1; go_simp) ?_
  simp only [Act.put, sA, sB, sC]
  refine fH (by rfl) (by intro w1 hw1 hk1; exact H1.out _) (by intro; go_simp) (fun v2 => ?_)
  simp only [Act.put, sA, sB, sC]
  refine fH (by rfl) (by intro w1 hw1 hk1; obtain ⟨g2, -⟩ := hk1; exact H2.out _ _ g2) (by intro; go_simp) (fun v3 => ?_)
  simp only [Act.put, sA, sB, sC]
  intro w1 hw1 hk1
  obtain ⟨g3, g2, -⟩ := hk1
  obtain ⟨pr1, kr1, cr1, qr1, jr1, dr1, pr2, kr2, cr2, qr2, jr2, dr2, rfl, -, -⟩ := g3.slice
  have HV := Lib.hid g3
  have HB3 := Lib.hid hw1
  have hhXR := (HB3.out).heap HXR.out
  have HHXR := Lib.hid hhXR
  have dXR0 : w1.cell? ⟨XR, 0, none⟩ = some (.bool false) := (heap_cell hhXR 0).trans rfl
  have fXR0 : w1.frozen? ⟨XR, 0, none⟩ = false := heap_frozen hhXR 0
  have dXR1 : w1.cell? ⟨XR, 1, none⟩ = some (.slice none 0 0) := (heap_cell hhXR 1).trans rfl
  have fXR1 : w1.frozen? ⟨XR, 1, none⟩ = false := heap_frozen hhXR 1
  have dXR2 : w1.cell? ⟨XR, 2, none⟩ = some (.slice none 0 0) := (heap_cell hhXR 2).trans rfl
  have fXR2 : w1.frozen? ⟨XR, 2, none⟩ = false := heap_frozen hhXR 2
  have dXR3 : w1.cell? ⟨XR, 3, none⟩ = some (.bool false) := (heap_cell hhXR 3).trans rfl
  have fXR3 : w1.frozen? ⟨XR, 3, none⟩ = false := heap_frozen hhXR 3
  have dXR4 : w1.cell? ⟨XR, 4, none⟩ = some (.slice none 0 0) := (heap_cell hhXR 4).trans rfl
  have fXR4 : w1.frozen? ⟨XR, 4, none⟩ = false := heap_frozen hhXR 4
  have dXR5 : w1.cell? ⟨XR, 5, none⟩ = some (.slice none 0 0) := (heap_cell hhXR 5).trans rfl
  have fXR5 : w1.frozen? ⟨XR, 5, none⟩ = false := heap_frozen hhXR 5
  clear hhXR
  clear hw1 g3 g2
  go_wp2
  obtain ⟨kb, kp, kh⟩ := finAll (vs := [.bool (decide (R1.num < 0)), .slice pr1 kr1 cr1, .slice qr1 jr1 dr1, .bool (decide (R2.num < 0)), .slice pr2 kr2 cr2, .slice qr2 jr2 dr2]) (HBW.out.trans HB3.out) HHXR.out rfl HGEXR.out (Φ := fun W2 => PC W2 (.agg #[.bool (decide (R1.num < 0)), .slice pr1 kr1 cr1, .slice qr1 jr1 dr1, .bool (decide (R2.num < 0)), .slice pr2 kr2 cr2, .slice qr2 jr2 dr2]) R1 R2) (fun W2 ho => HV.out.only ho HHXR.out (noInt_pt _ _ _ _ _ _ _ _ _ _ _ _ _ _))
  have kk0 : (setAll w1 XR 0 [.bool (decide (R1.num < 0)), .slice pr1 kr1 cr1, .slice qr1 jr1 dr1, .bool (decide (R2.num < 0)), .slice pr2 kr2 cr2, .slice qr2 jr2 dr2]).cell? ⟨XR, 0, none⟩ = some (.bool (decide (R1.num < 0))) := (heap_cell kh 0).trans rfl
  have kk1 : (setAll w1 XR 0 [.bool (decide (R1.num < 0)), .slice pr1 kr1 cr1, .slice qr1 jr1 dr1, .bool (decide (R2.num < 0)), .slice pr2 kr2 cr2, .slice qr2 jr2 dr2]).cell? ⟨XR, 1, none⟩ = some (.slice pr1 kr1 cr1) := (heap_cell kh 1).trans rfl
  have kk2 : (setAll w1 XR 0 [.bool (decide (R1.num < 0)), .slice pr1 kr1 cr1, .slice qr1 jr1 dr1, .bool (decide (R2.num < 0)), .slice pr2 kr2 cr2, .slice qr2 jr2 dr2]).cell? ⟨XR, 2, none⟩ = some (.slice qr1 jr1 dr1) := (heap_cell kh 2).trans rfl
  have kk3 : (setAll w1 XR 0 [.bool (decide (R1.num < 0)), .slice pr1 kr1 cr1, .slice qr1 jr1 dr1, .bool (decide (R2.num < 0)), .slice pr2 kr2 cr2, .slice qr2 jr2 dr2]).cell? ⟨XR, 3, none⟩ = some (.bool (decide (R2.num < 0))) := (heap_cell kh 3).trans rfl
  have kk4 : (setAll w1 XR 0 [.bool (decide (R1.num < 0)), .slice pr1 kr1 cr1, .slice qr1 jr1 dr1, .bool (decide (R2.num < 0)), .slice pr2 kr2 cr2, .slice qr2 jr2 dr2]).cell? ⟨XR, 4, none⟩ = some (.slice pr2 kr2 cr2) := (heap_cell kh 4).trans rfl
  have kk5 : (setAll w1 XR 0 [.bool (decide (R1.num < 0)), .slice pr1 kr1 cr1, .slice qr1 jr1 dr1, .bool (decide (R2.num < 0)), .slice pr2 kr2 cr2, .slice qr2 jr2 dr2]).cell? ⟨XR, 5, none⟩ = some (.slice qr2 jr2 dr2) := (heap_cell kh 5).trans rfl
  simp only [setAll] at kb kp kk0 kk1 kk2 kk3 kk4 kk5
  exact bodyPost_ret (v := .agg #[.bool (decide (R1.num < 0)), .slice pr1 kr1 cr1, .slice qr1 jr1 dr1, .bool (decide (R2.num < 0)), .slice pr2 kr2 cr2, .slice qr2 jr2 dr2]) (by simp [results, Tryz.results43, go_sem, kk0, kk1, kk2, kk3, kk4, kk5]) rfl ⟨_, rfl, kb, kp⟩
attribute [local go_sem] Oper.semAt_some
set_option maxRecDepth 100000 in
set_option maxHeartbeats 2000000 in
theorem back1_in8 (n : Nat) (hn : 1 ≤ n) (l Bs b off len cap : Nat) (hlen : len < 1000000000000) (J Jx : List (Pl len) → World → Prop)
    (hY : ∀ pre x W, J pre W → pre.length < len → YieldAt Fence.wide (n - 1) Tryz.prog l #[.int .i64 (plN x : Int), .int .u8 x.1.2] W fun e W' =>
      (e = .returned (.bool true) ∧ J (pre ++ [x]) W' ∧ KpB .u8 Bs b off len W W') ∨ (e = .returned (.bool false) ∧ Jx (pre ++ [x]) W'))
    (W : World) (hBs : W.cell? ⟨Bs, 0, none⟩ = some (.slice (some ⟨b, off, none⟩) len cap)) (hc : ∀ j, j < len → IsI .u8 (W.cell? ⟨b, off + j, none⟩)) (h0 : J [] W) :
    CallsIn Fence.wide n Tryz.prog 192 #[.func (.yield l) #[] #[], .pointer (some ⟨Bs, 0, none⟩)] W fun e W' => (∃ v, e = .returned v) ∧
      ((∃ ys, ys.map plN = downs len ∧ J ys W') ∨ (∃ pre, (∃ k, k ≤ len ∧ pre.map plN = (downs len).take k) ∧ Jx pre W')) := by
  refine callsIn_of_wp Tryz.func192 rfl trivial ?_ rfl
  simp only [Tryz.ntmps192, List.size_toArray, List.length_cons, List.length_nil, Nat.reduceAdd, Nat.reduceSub, Array.replicate_succ, Array.replicate_zero, List.push_toArray, List.append_toArray, List.nil_append, List.cons_append]
  gi_wp2
  gi_loopw [3] (fun i wr => ∃ (k : Nat) (pre : List (Pl len)), k ≤ len ∧ i = .int .i64 ((len : Int) - 1 - (k : Int)) ∧ pre.map plN = (downs len).take k ∧ J pre wr ∧ KpB .u8 Bs b off len W wr)
    (fun i _ => (intOf i + 1).toNat)
  case atStart => exact ⟨0, [], Nat.zero_le _, by simp, by simp, h0, KpB.refl _ _ _ _ _ _⟩
  case round =>
    obtain ⟨k, pre, hk, rfl, hpre, hJs, hkp⟩ := hrel
    by_cases hlt : k < len
    · obtain ⟨x, hx⟩ := hkp.2 (len - 1 - k) (by omega) (hc (len - 1 - k) (by omega))
      have hbx : wr.cell? ⟨Bs, 0, none⟩ = some (.slice (some ⟨b, off, none⟩) len cap) := hkp.1.trans hBs
      obtain ⟨m, hm⟩ : ∃ m, len - 1 - k = m := ⟨_, rfl⟩
      have hmi : (len : Int) - 1 - (k : Int) = (m : Int) := by omega
      have hml : m < len := by omega
      obtain ⟨fn, tmps, assign, body, hy, hR⟩ := hY pre ⟨(m, x), hml⟩ wr hJs (by have := congrArg List.length hpre; simp [downs_len] at this; omega)
      unfold plN at hy
      dsimp only at hy
      rw [hm] at hx
      rw [hmi]
      gi_wp2
      refine hR.mono ?_
      rintro e W3 (⟨rfl, hJ3, hk3⟩ | ⟨rfl, hJx3⟩)
      · gi_wp2
        go_roundw
        case rel => exact ⟨k + 1, pre ++ [⟨(m, x), hml⟩], by omega, by congr 1; omega, by rw [List.map_append, hpre, downs_take hlt, hm]; rfl, hJ3, hkp.trans hk3⟩
        case measure => simp [intOf]
      · gi_wp2
        refine bodyPost_ret (results_none rfl _ _ _) rfl ?_
        exact ⟨⟨_, rfl⟩, .inr ⟨pre ++ [⟨(m, x), hml⟩], ⟨k + 1, by omega, by rw [List.map_append, hpre, downs_take hlt, hm]; rfl⟩, hJx3⟩⟩
    · obtain rfl : k = len := by omega
      have hm1 : (k : Int) - 1 - (k : Int) = -1 := by omega
      rw [hm1]
      gi_wp2
      go_end0
      exact ⟨⟨_, rfl⟩, .inl ⟨pre, by rw [hpre, List.take_of_length_le (by rw [downs_len]; exact Nat.le_refl _)], hJs⟩⟩
set_option maxRecDepth 100000 in
set_option maxHeartbeats 1000000 in
theorem back1_none8 {α : Type} (n : Nat) (l Bs cap : Nat) (p : Option Addr) (J : List α → World → Prop) (W : World) (hBs : W.cell? ⟨Bs, 0, none⟩ = some (.slice p 0 cap)) (h0 : J [] W) :
    CallsIn Fence.wide n Tryz.prog 192 #[.func (.yield l) #[] #[], .pointer (some ⟨Bs, 0, none⟩)] W fun e W' => (∃ v, e = .returned v) ∧ J [] W' := by
  refine callsIn_of_wp Tryz.func192 rfl trivial ?_ rfl
  simp only [Tryz.ntmps192, List.size_toArray, List.length_cons, List.length_nil, Nat.reduceAdd, Nat.reduceSub, Array.replicate_succ, Array.replicate_zero, List.push_toArray, List.append_toArray, List.nil_append, List.cons_append]
  gi_wp2
  gi_loopw [3] (fun i wr => i = .int .i64 (-1) ∧ J [] wr) (fun _ _ => 0)
  case atStart => exact ⟨rfl, h0⟩
  case round =>
    obtain ⟨rfl, hJs⟩ := hrel
    gi_wp2
    go_end0
    exact ⟨⟨_, rfl⟩, hJs⟩
theorem backward_any8 (p : Option Addr) (len cap : Nat) (w : World) : Calls Tryz.prog 163 #[.slice p len cap] w fun e w' =>
    e = .returned (.func (.func 192) #[] #[.pointer (some ⟨w.heap.size, 0, none⟩)]) ∧ w' = w.alloc (.cells #[.slice p len cap] 196) := by
  have hmf : ∀ (fn : Fn) (first cap : Array Value) (w : World), (Instr.makeFunc fn first cap).run Tryz.prog w = .ok (.func fn first cap) w := fun _ _ _ _ => rfl
  go_enter Tryz.func163, Tryz.ntmps163
  go_wp2
  go_ret
  exact ⟨rfl, rfl⟩
theorem back_stops8 (n : Nat) (hn : 1 ≤ n) (Bs : Nat) (p : Option Addr) (b off len cap : Nat) (hlen : len < 1000000000000) (hp : 0 < len → p = some ⟨b, off, none⟩) (w : World) (hB : Bs < w.heap.size) (hb : 0 < len → b < w.heap.size)
    (hBs : w.cell? ⟨Bs, 0, none⟩ = some (.slice p len cap)) (hc : ∀ j, j < len → IsI .u8 (w.cell? ⟨b, off + j, none⟩)) :
    SeqStopsK Fence.wide n Tryz.prog 192 #[.pointer (some ⟨Bs, 0, none⟩)] (fun x : Pl len => #[Value.int .i64 (plN x : Int), Value.int .u8 x.1.2]) (KpB .u8 Bs b off len)
      (fun ys => ys.map plN = downs len) (fun pre => ∃ k, k ≤ len ∧ pre.map plN = (downs len).take k) len w := fun l J Jx W hW _ _ hY h0 => by
  have hBs' : W.cell? ⟨Bs, 0, none⟩ = some (.slice p len cap) := (Below.cell hW (p := ⟨Bs, 0, none⟩) hB).trans hBs
  by_cases h : 0 < len
  · rw [hp h] at hBs'
    refine back1_in8 n hn l Bs b off len cap hlen J Jx hY W hBs' (fun j hj => ?_) h0
    rw [Below.cell hW (p := ⟨b, off + j, none⟩) (hb h)]
    exact hc j hj
  · obtain rfl : len = 0 := by omega
    exact (back1_none8 n l Bs cap p J W hBs' h0).mono fun e W' ⟨he, hj⟩ => ⟨he, .inl ⟨[], rfl, hj⟩⟩
end Go.Proofs.YtafmfnpjhhaikaaGreatDoor
namespace Go.Proofs.YtafmfnpjhhaikaaGreatDoor
open Go.RowKit Go.Shelf
/-- So many of the powers are there. -/
def TenAt (T i : Nat) (w : World) : Prop := (∀ j, j ≤ i → w.cell? ⟨T, 3 + j, none⟩ = some (.int .u64 ((10 ^ j : Nat) : Int))) ∧ (∀ j, j ≤ 18 → ∃ x : Int, w.cell? ⟨T, 3 + j, none⟩ = some (.int .u64 x)) ∧ ∀ j, w.frozen? ⟨T, j, none⟩ = false
/-- What a step of it keeps. -/
def TenK (T : Nat) (w w' : World) : Prop := (w.heap.size ≤ w'.heap.size ∧ ∀ r, r < w.heap.size → r ≠ T → w'.heap[r]? = w.heap[r]?) ∧ w'.os = w.os ∧ w'.tape = w.tape ∧ w'.output = w.output ∧ ∀ j v, j < 3 → w.cell? ⟨T, j, none⟩ = some v → w'.cell? ⟨T, j, none⟩ = some v
theorem TenK.refl (T : Nat) (w : World) : TenK T w w := ⟨⟨Nat.le_refl _, fun _ _ _ => rfl⟩, rfl, rfl, rfl, fun _ _ _ h => h⟩
theorem TenK.trans {T : Nat} {a b c : World} (h : TenK T a b) (k : TenK T b c) : TenK T a c := ⟨⟨Nat.le_trans h.1.1 k.1.1, fun r hr hne => (k.1.2 r (Nat.lt_of_lt_of_le hr h.1.1) hne).trans (h.1.2 r hr hne)⟩, k.2.1.trans h.2.1, k.2.2.1.trans h.2.2.1, k.2.2.2.1.trans h.2.2.2.1, fun j v hj hv => k.2.2.2.2 j v hj (h.2.2.2.2 j v hj hv)⟩
theorem TenK.bel (T : Nat) {w w' : World} (h : Bel w w') : TenK T w w' := ⟨⟨h.size, fun r hr _ => Below.block h r hr⟩, h.os, h.tape, h.output, fun _ _ _ hv => h.cell hv⟩
theorem TenK.set (T : Nat) (w : World) (j : Nat) (v : Value) : TenK T w (w.setCell ⟨T, 3 + j, none⟩ v) := by
  have ho := (OnlyG.refl T w).set (3 + j) v
  exact ⟨⟨Nat.le_of_eq ho.1.symm, fun r _ hne => ho.2 r hne⟩, rfl, rfl, rfl, fun k u hk hu => (World.cell?_setCell_other w ⟨T, 3 + j, none⟩ ⟨T, k, none⟩ v (by simp <;> omega)).trans hu⟩
theorem TenAt.bel {T i : Nat} {w w' : World} (hT : T < w.heap.size) (h : TenAt T i w) (hb : Bel w w') : TenAt T i w' :=
  ⟨fun j hj => hb.cell (h.1 j hj), fun j hj => by obtain ⟨x, hx⟩ := h.2.1 j hj; exact ⟨x, hb.cell hx⟩, fun j => by
    have := h.2.2 j
    unfold World.frozen? at this ⊢
    rw [Below.block hb T hT]
    exact this⟩
theorem TenAt.set {T i : Nat} {w : World} (h : TenAt T i w) (hi : i < 18) : TenAt T (i + 1) (w.setCell ⟨T, 3 + (i + 1), none⟩ (.int .u64 ((10 ^ (i + 1) : Nat) : Int))) := by
  obtain ⟨h1, h2, h3⟩ := h
  obtain ⟨x, hx⟩ := h2 (i + 1) (by omega)
  have hs : (w.setCell ⟨T, 3 + (i + 1), none⟩ (.int .u64 ((10 ^ (i + 1) : Nat) : Int))).cell? ⟨T, 3 + (i + 1), none⟩ = some (.int .u64 ((10 ^ (i + 1) : Nat) : Int)) := World.cell?_setCell_same' _ _ _ (by rw [hx]; rfl)
  refine ⟨fun j hj => ?_, fun j hj => ?_, fun j => ?_⟩
  · by_cases hji : j = i + 1
    · subst hji; exact hs
    · exact (World.cell?_setCell_other w ⟨T, 3 + (i + 1), none⟩ ⟨T, 3 + j, none⟩ _ (by simp <;> omega)).trans (h1 j (by omega))
  · by_cases hji : j = i + 1
    · subst hji; exact ⟨_, hs⟩
    · obtain ⟨y, hy⟩ := h2 j hj
      exact ⟨y, (World.cell?_setCell_other w ⟨T, 3 + (i + 1), none⟩ ⟨T, 3 + j, none⟩ _ (by simp <;> omega)).trans hy⟩
  · rw [World.frozen?_setCell]; exact h3 j
set_option maxRecDepth 100000 in
set_option maxHeartbeats 2000000 in
theorem tenFill_any (T : Nat) (w : World) (h : ∀ j, j ≤ 18 → ∃ x : Int, w.cell? ⟨T, 3 + j, none⟩ = some (.int .u64 x)) (hz : ∀ j, w.frozen? ⟨T, j, none⟩ = false) :
    Calls Tryz.prog 191 #[.pointer (some ⟨T, 0, none⟩)] w fun e w' => e = .returned (.tuple #[]) ∧ TenAt T 18 w' ∧ TenK T w w' := by
  obtain ⟨x0, hx0⟩ := h 0 (by omega)
  rw [Nat.add_zero] at hx0
  have f3 := hz 3
  have HA : Hid (TenAt T 0 (w.setCell ⟨T, 3, none⟩ (.int .u64 1))) := by
    have hs : (w.setCell ⟨T, 3, none⟩ (.int .u64 1)).cell? ⟨T, 3, none⟩ = some (.int .u64 1) := World.cell?_setCell_same' _ _ _ (by rw [hx0]; rfl)
    refine ⟨fun j hj => ?_, fun j hj => ?_, fun j => ?_⟩
    · obtain rfl : j = 0 := by omega
      exact hs
    · by_cases hj0 : j = 0
      · subst hj0; exact ⟨1, hs⟩
      · obtain ⟨y, hy⟩ := h j hj
        exact ⟨y, (World.cell?_setCell_other w ⟨T, 3, none⟩ ⟨T, 3 + j, none⟩ _ (by simp <;> omega)).trans hy⟩
    · rw [World.frozen?_setCell]; exact hz j
  have HK : Hid (TenK T w (w.setCell ⟨T, 3, none⟩ (.int .u64 1))) := TenK.set T w 0 _
  clear h hz
  go_enter Tryz.func191, Tryz.ntmps191
  go_wp2
  go_loopg [7] 18 (fun gf s7 wx => ∃ i : Nat, s7 = .int .i64 i ∧ i ≤ 18 ∧ 18 ≤ i + gf ∧ TenAt T i wx ∧ TenK T w wx)
  case atStart => exact ⟨0, rfl, by omega, by omega, HA.out, HK.out⟩
  case round =>
    obtain ⟨i, rfl, hi, hig, hat, hk⟩ := hrel
    have HAT := Lib.hid hat
    have HTK := Lib.hid hk
    clear hat hk
    by_cases hlt : i < 18
    · obtain ⟨gk', rfl⟩ : ∃ g, gk = g + 1 := ⟨gk - 1, by omega⟩
      obtain ⟨PW, hPW⟩ : ∃ P, 10 ^ i = P := ⟨_, rfl⟩
      obtain ⟨QW, hQW⟩ : ∃ Q, 10 ^ (i + 1) = Q := ⟨_, rfl⟩
      have hq : QW = PW * 10 := by rw [← hQW, ← hPW, Nat.pow_succ]
      have hp : PW ≤ 10 ^ 17 := by rw [← hPW]; exact Nat.pow_le_pow_right (by decide) (by omega)
      have hpn : PW ≤ 100000000000000000 := hp
      have ew : IntKind.u64.wrap ((PW : Int) * 10) = (QW : Int) := by rw [IntKind.wrap_u64]; omega
      have hcp := HAT.out.1 i (Nat.le_refl _)
      rw [hPW] at hcp
      have HCP := Lib.hid hcp
      have hTs : T < wr.heap.size := by have := World.block_lt_of_cell? wr _ hcp; exact this
      have HTS := Lib.hid hTs
      have HQW := Lib.hid hQW
      have hw2 : IntKind.i64.wrap ((i : Int) + 1) = (i : Int) + 1 := by rw [IntWalk.i64_in _ (by omega)]
      clear hPW hQW hq hp hpn hcp hTs
      go_upto_region 4 with fail
      refine region_flow 13 [[], [], [1], [], [], [3], [5], [4, 6], [7], [8], [0], [10], [2, 11]] [.is (.pointer (some ⟨T, 0, none⟩)), .is (.int .i64 (i : Nat)), .is (.int .i64 ((i : Nat) + 1)), .is (.pointer (some ⟨T, 0, none⟩)), .is (.int .i64 (i : Nat)), .is (.pointer (some ⟨T, 0, none⟩)), .is (.pointer (some ⟨T, 3, none⟩)), .is (.pointer (some ⟨T, 3 + i, none⟩)), .is (.int .u64 (PW : Nat)), .is (.int .u64 (QW : Nat)), .is (.pointer (some ⟨T, 0, none⟩)), .is (.pointer (some ⟨T, 3, none⟩)), .is (.pointer (some ⟨T, 3 + (i + 1), none⟩))] (by kernel_rfl) (by kernel_rfl) rfl (by simp only [Steady]) ?_
      simp only [List.take_succ_cons, List.take_zero, List.drop_succ_cons, List.drop_zero]
      refine fV (by rfl) (by intro w1 hw1 hk1; go_simp) ?_
      simp only [Act.put, sA, sB, sC]
      refine fV (by rfl) (by intro w1 hw1 hk1; go_simp) ?_
      simp only [Act.put, sA, sB, sC]
      refine fV (by rfl) (by intro w1 hw1 hk1; go_simp) ?_
      simp only [Act.put, sA, sB, sC]
      refine fV (by rfl) (by intro w1 hw1 hk1; go_simp) ?_
      simp only [Act.put, sA, sB, sC]
      refine fV (by rfl) (by intro w1 hw1 hk1; go_simp) ?_
      simp only [Act.put, sA, sB, sC]
      refine fV (by rfl) (by intro w1 hw1 hk1; go_simp) ?_
      simp only [Act.put, sA, sB, sC]
      refine fV (by rfl) (by intro w1 hw1 hk1; go_simp) ?_
      simp only [Act.put, sA, sB, sC]
      refine flow_is (by intro w1 hw1 hk1; refine want (by rfl) (gives_val ?_); go_simp; (first | done | (intro h; omega))) ?_
      simp only [Act.put, sA, sB, sC]
      refine flow_is (by intro w1 hw1 hk1; have q := hw1.cell HCP.out; refine want (by rfl) (gives_val ?_); go_simp) ?_
      simp only [Act.put, sA, sB, sC]
      refine fV (by rfl) (by intro w1 hw1 hk1; go_simp) ?_
      simp only [Act.put, sA, sB, sC]
      refine fV (by rfl) (by intro w1 hw1 hk1; go_simp) ?_
      simp only [Act.put, sA, sB, sC]
      refine fV (by rfl) (by intro w1 hw1 hk1; go_simp) ?_
      simp only [Act.put, sA, sB, sC]
      refine flow_is (by intro w1 hw1 hk1; refine want (by rfl) (gives_val ?_); go_simp; (first | done | (intro h; omega))) ?_
      simp only [Act.put, sA, sB, sC]
      intro w1 hw1 hk1
      have HAT2 := Lib.hid (HAT.out.bel HTS.out hw1)
      have HTK2 := Lib.hid (HTK.out.trans (TenK.bel T hw1))
      clear hw1
      obtain ⟨y, hy⟩ := HAT2.out.2.1 (i + 1) (by omega)
      have hf := HAT2.out.2.2 (3 + (i + 1))
      go_wp2
      go_roundg gk'
      case measure => omega
      case rel => exact ⟨i + 1, by go_num, by omega, by omega, by have := HAT2.out.set hlt; rw [HQW.out] at this; exact this, HTK2.out.trans (TenK.set T _ (i + 1) _)⟩
    · obtain rfl : i = 18 := by omega
      go_wp2
      go_end0
      exact ⟨rfl, HAT.out, HTK.out⟩
/-- Nothing but one block has changed; there may be new ones. -/
def KeepT (T : Nat) (w w' : World) : Prop := (w.heap.size ≤ w'.heap.size ∧ ∀ r, r < w.heap.size → r ≠ T → w'.heap[r]? = w.heap[r]?) ∧ w'.os = w.os ∧ w'.tape = w.tape ∧ w'.output = w.output
theorem KeepT.refl (T : Nat) (w : World) : KeepT T w w := ⟨⟨Nat.le_refl _, fun _ _ _ => rfl⟩, rfl, rfl, rfl⟩
theorem KeepT.trans {T : Nat} {a b c : World} (h : KeepT T a b) (k : KeepT T b c) : KeepT T a c := ⟨⟨Nat.le_trans h.1.1 k.1.1, fun r hr hne => (k.1.2 r (Nat.lt_of_lt_of_le hr h.1.1) hne).trans (h.1.2 r hr hne)⟩, k.2.1.trans h.2.1, k.2.2.1.trans h.2.2.1, k.2.2.2.trans h.2.2.2⟩
theorem KeepT.set (T : Nat) (w : World) (j : Nat) (v : Value) : KeepT T w (w.setCell ⟨T, j, none⟩ v) := by
  have ho := (OnlyG.refl T w).set j v
  exact ⟨⟨Nat.le_of_eq ho.1.symm, fun r _ hne => ho.2 r hne⟩, rfl, rfl, rfl⟩
theorem TenK.keep {T : Nat} {w w' : World} (h : TenK T w w') : KeepT T w w' := ⟨h.1, h.2.1, h.2.2.1, h.2.2.2.1⟩
theorem KeepT.bel {T : Nat} {w0 w w' : World} (h : KeepT T w w') (hb : Bel w0 w) (hT : w0.heap.size ≤ T) : Bel w0 w' :=
  ⟨h.2.1.trans hb.os, h.2.2.1.trans hb.tape, h.2.2.2.trans hb.output, Nat.le_trans hb.size h.1.1, fun k hk => (h.1.2 k (Nat.lt_of_lt_of_le hk hb.size) (by omega)).trans (Below.block hb k hk)⟩
set_option maxRecDepth 100000 in
set_option maxHeartbeats 2000000 in
theorem power_any (T : Nat) (w : World) (h0 : w.cell? ⟨T, 0, none⟩ = some (.int .u32 0)) (h1 : w.cell? ⟨T, 1, none⟩ = some (.int .i32 0)) (h : ∀ j, j ≤ 18 → ∃ x : Int, w.cell? ⟨T, 3 + j, none⟩ = some (.int .u64 x)) (hz : ∀ j, w.frozen? ⟨T, j, none⟩ = false) :
    Calls Tryz.prog 162 #[.pointer (some ⟨T, 0, none⟩), .int .i64 18] w fun e w' => e = .returned (.int .u64 1000000000000000000) ∧ KeepT T w w' := by
  have hs1 : (w.setCell ⟨T, 1, none⟩ (.int .i32 1)).cell? ⟨T, 1, none⟩ = some (.int .i32 1) := World.cell?_setCell_same' _ _ _ (by rw [h1]; rfl)
  have hs0 : (w.setCell ⟨T, 1, none⟩ (.int .i32 1)).cell? ⟨T, 0, none⟩ = some (.int .u32 0) := (World.cell?_setCell_other w ⟨T, 1, none⟩ ⟨T, 0, none⟩ _ (by simp)).trans h0
  have hF := tenFill_any T (w.setCell ⟨T, 1, none⟩ (.int .i32 1)) (fun j hj => by
    obtain ⟨x, hx⟩ := h j hj
    exact ⟨x, (World.cell?_setCell_other w ⟨T, 1, none⟩ ⟨T, 3 + j, none⟩ _ (by simp <;> omega)).trans hx⟩) (fun j => by rw [World.frozen?_setCell]; exact hz j)
  have HO := Lib.hid (once_do T 191 w (fun w' => TenAt T 18 w' ∧ TenK T (w.setCell ⟨T, 1, none⟩ (.int .i32 1)) w') h0 h1 (hz 0) (hz 1) (fun _ => by go_simp) hF
    (fun w' ⟨ha, hk⟩ => ⟨hk.2.2.2.2 0 _ (by decide) hs0, hk.2.2.2.2 1 _ (by decide) hs1, ha.2.2 0, ha.2.2 1⟩))
  have HKS := Lib.hid (KeepT.set T w 1 (.int .i32 1))
  clear h0 h1 h hz hs0 hs1 hF
  have hmf : ∀ (fn : Fn) (first cap : Array Value) (w : World), (Instr.makeFunc fn first cap).run Tryz.prog w = .ok (.func fn first cap) w := fun _ _ _ _ => rfl
  go_enter Tryz.func162, Tryz.ntmps162
  go_upto_region 2 with (go_at_call 110; (with_reducible refine HO.out.mono ?_); rintro e w2 ⟨rfl, w1, ⟨hat, hk⟩, hw2⟩; have HAT := Lib.hid hat; have HK := Lib.hid hk; have HW2 := Lib.hid hw2; clear hat hk hw2)
  have hc : w2.cell? ⟨T, 21, none⟩ = some (.int .u64 1000000000000000000) := by
    rw [HW2.out]
    refine (World.cell?_setCell_other _ ⟨T, 1, none⟩ ⟨T, 21, none⟩ _ (by simp)).trans ((World.cell?_setCell_other _ ⟨T, 0, none⟩ ⟨T, 21, none⟩ _ (by simp)).trans ?_)
    exact HAT.out.1 18 (Nat.le_refl _)
  have HKK : Hid (KeepT T w w2) := by
    unfold Hid
    rw [HW2.out]
    exact (HKS.out.trans HK.out.keep).trans (((show KeepT T w1 w1.drew from KeepT.refl T w1).trans (KeepT.set T _ 0 _)).trans (KeepT.set T _ 1 _))
  clear hmf
  go_wp2
  go_ret
  exact ⟨rfl, HKK.out⟩
end Go.Proofs.YtafmfnpjhhaikaaGreatDoor
