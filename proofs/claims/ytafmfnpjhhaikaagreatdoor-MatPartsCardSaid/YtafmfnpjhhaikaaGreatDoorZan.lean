/-
  pt: both, Add, Sub, Scale, Dot, Cross (printed by gen_pta.py).
-/
import Derived.Test.YtafmfnpjhhaikaaGreatDoorZam
namespace Go.Proofs.YtafmfnpjhhaikaaGreatDoor
open Go.RowKit Go.Shelf

/-- A point of two fractions, as it is made. -/
def PC (w : World) (v : Value) (x y : Rat) : Prop := ∃ s1 u1 d1 s2 u2 d2, v = .agg #[s1, u1, d1, s2, u2, d2] ∧ RC w (.agg #[s1, u1, d1]) x ∧ RC w (.agg #[s2, u2, d2]) y
/-- A point that can be read, its fractions of so many limbs. -/
def PS (k : Nat) (w : World) (v : Value) (x y : Rat) : Prop := ∃ s1 u1 d1 s2 u2 d2, v = .agg #[s1, u1, d1, s2, u2, d2] ∧ RS k w (.agg #[s1, u1, d1]) x ∧ RS k w (.agg #[s2, u2, d2]) y
theorem PC.bel {w w' : World} {v : Value} {x y : Rat} (h : PC w v x y) (hb : Bel w w') : PC w' v x y := by
  obtain ⟨s1, u1, d1, s2, u2, d2, h0, h1, h2⟩ := h
  exact ⟨s1, u1, d1, s2, u2, d2, h0, h1.bel hb, h2.bel hb⟩
theorem PS.bel {k : Nat} {w w' : World} {v : Value} {x y : Rat} (h : PS k w v x y) (hb : Bel w w') : PS k w' v x y := by
  obtain ⟨s1, u1, d1, s2, u2, d2, h0, h1, h2⟩ := h
  exact ⟨s1, u1, d1, s2, u2, d2, h0, h1.bel hb, h2.bel hb⟩
theorem PC.ps {w : World} {v : Value} {x y : Rat} {k : Nat} (h : PC w v x y) (hx : Sz k x) (hy : Sz k y) (hk : k ≤ LimK) : PS k w v x y := by
  obtain ⟨s1, u1, d1, s2, u2, d2, h0, h1, h2⟩ := h
  exact ⟨s1, u1, d1, s2, u2, d2, h0, h1.rs hx hk, h2.rs hy hk⟩
theorem PC.only {w w' : World} {b t : Nat} {v : Value} {cs : Array Value} {fr : Nat × Nat} {x y : Rat} (h : PC w v x y) (ho : OnlyG b w w') (hb : w.heap[b]? = some (.cells cs t fr)) (hn : NoInt .u64 cs) : PC w' v x y := by
  obtain ⟨s1, u1, d1, s2, u2, d2, h0, h1, h2⟩ := h
  exact ⟨s1, u1, d1, s2, u2, d2, h0, h1.only ho hb hn, h2.only ho hb hn⟩
theorem RI.only' {w w' : World} {b t : Nat} {v : Value} {cs : Array Value} {fr : Nat × Nat} {k : Nat} {q : Rat} (h : RS k w v q) (ho : OnlyG b w w') (hb : w.heap[b]? = some (.cells cs t fr)) (hn : NoInt .u64 cs) : RS k w' v q := ⟨h.1.only ho hb hn, h.2⟩
theorem PS.only {w w' : World} {b t : Nat} {v : Value} {cs : Array Value} {fr : Nat × Nat} {k : Nat} {x y : Rat} (h : PS k w v x y) (ho : OnlyG b w w') (hb : w.heap[b]? = some (.cells cs t fr)) (hn : NoInt .u64 cs) : PS k w' v x y := by
  obtain ⟨s1, u1, d1, s2, u2, d2, h0, h1, h2⟩ := h
  exact ⟨s1, u1, d1, s2, u2, d2, h0, RI.only' h1 ho hb hn, RI.only' h2 ho hb hn⟩
theorem noInt_pt (s : Bool) (p p' : Option Addr) (n c n' c' : Nat) (s2 : Bool) (p2 p2' : Option Addr) (n2 c2 n2' c2' : Nat) : NoInt .u64 #[.bool s, .slice p n c, .slice p' n' c', .bool s2, .slice p2 n2 c2, .slice p2' n2' c2'] := by
  intro v hv x
  simp at hv
  rcases hv with rfl | rfl | rfl | rfl | rfl | rfl <;> simp
theorem PC.slice {w : World} {v : Value} {x y : Rat} (h : PC w v x y) : ∃ p1 k1 c1 p2 k2 c2 p3 k3 c3 p4 k4 c4, v = .agg #[.bool (decide (x.num < 0)), .slice p1 k1 c1, .slice p2 k2 c2, .bool (decide (y.num < 0)), .slice p3 k3 c3, .slice p4 k4 c4] ∧
    RC w (.agg #[.bool (decide (x.num < 0)), .slice p1 k1 c1, .slice p2 k2 c2]) x ∧ RC w (.agg #[.bool (decide (y.num < 0)), .slice p3 k3 c3, .slice p4 k4 c4]) y := by
  obtain ⟨s1, u1, d1, s2, u2, d2, rfl, h1, h2⟩ := h
  obtain ⟨p1, k1, c1, p2, k2, c2, e1, -, -⟩ := h1.slice
  obtain ⟨p3, k3, c3, p4, k4, c4, e2, -, -⟩ := h2.slice
  simp only [Value.agg.injEq, Array.mk.injEq, List.cons.injEq, and_true] at e1 e2
  obtain ⟨rfl, rfl, rfl⟩ := e1
  obtain ⟨rfl, rfl, rfl⟩ := e2
  exact ⟨p1, k1, c1, p2, k2, c2, p3, k3, c3, p4, k4, c4, rfl, h1, h2⟩
theorem RS.parts {k : Nat} {w : World} {v : Value} {x : Rat} (h : RS k w v x) : ∃ s p n c q m d, v = .agg #[.bool s, .slice p n c, .slice q m d] := by
  obtain ⟨s, p, n, c, q, m, d, _, _, rfl, -⟩ := h.1.slice
  exact ⟨s, p, n, c, q, m, d, rfl⟩
theorem PS.parts {k : Nat} {w : World} {v : Value} {x y : Rat} (h : PS k w v x y) : ∃ s1 p1 k1 c1 p2 k2 c2 s2 p3 k3 c3 p4 k4 c4, v = .agg #[.bool s1, .slice p1 k1 c1, .slice p2 k2 c2, .bool s2, .slice p3 k3 c3, .slice p4 k4 c4] ∧
    RS k w (.agg #[.bool s1, .slice p1 k1 c1, .slice p2 k2 c2]) x ∧ RS k w (.agg #[.bool s2, .slice p3 k3 c3, .slice p4 k4 c4]) y := by
  obtain ⟨s1, u1, d1, s2, u2, d2, rfl, h1, h2⟩ := h
  obtain ⟨s, p1, k1, c1, p2, k2, c2, e1⟩ := h1.parts
  obtain ⟨s', p3, k3, c3, p4, k4, c4, e2⟩ := h2.parts
  simp only [Value.agg.injEq, Array.mk.injEq, List.cons.injEq, and_true] at e1 e2
  obtain ⟨rfl, rfl, rfl⟩ := e1
  obtain ⟨rfl, rfl, rfl⟩ := e2
  exact ⟨s, p1, k1, c1, p2, k2, c2, s', p3, k3, c3, p4, k4, c4, rfl, h1, h2⟩
set_option maxHeartbeats 4000000 in
set_option maxRecDepth 100000 in
theorem mk_both0 {g : FuncId} {w : World} {a b : Value} {x1 y1 x2 y2 R1 R2 : Rat} {i j : Nat} (HG : Hid (∀ (vs : Array Value) (X : World), (callFunc g vs).run Tryz.prog X = .ok (.enter g vs) X)) (ha : PS i w a x1 y1) (hb : PS j w b x2 y2) (HC1 : Hid (∀ X u v, Bel w X → RS i X u x1 → RS j X v x2 → Calls Tryz.prog g #[u, v] X (Makes X fun v w' => RC w' v R1)))
    (HC2 : Hid (∀ X u v, Bel w X → RS i X u y1 → RS j X v y2 → Calls Tryz.prog g #[u, v] X (Makes X fun v w' => RC w' v R2))) : Calls Tryz.prog 80 #[a, b, .func (.func g) #[] #[]] w (Makes w fun v w' => PC w' v R1 R2) := by
  obtain ⟨sa1, pa1, ka1, ca1, qa1, ja1, da1, sa2, pa2, ka2, ca2, qa2, ja2, da2, rfl, ha1, ha2⟩ := ha.parts
  have HPa := Lib.hid ha
  have HPa1 := Lib.hid ha1
  have HPa2 := Lib.hid ha2
  clear ha ha1 ha2
  obtain ⟨sb1, pb1, kb1, cb1, qb1, jb1, db1, sb2, pb2, kb2, cb2, qb2, jb2, db2, rfl, hb1, hb2⟩ := hb.parts
  have HPb := Lib.hid hb
  have HPb1 := Lib.hid hb1
  have HPb2 := Lib.hid hb2
  clear hb hb1 hb2
  go_enter Tryz.func80, Tryz.ntmps80
  go_upto_region 1 with fail
  obtain ⟨hXa, hXb, hXR, hbw⟩ := boxes3 w (.cells #[.bool sa1, .slice pa1 ka1 ca1, .slice qa1 ja1 da1, .bool sa2, .slice pa2 ka2 ca2, .slice qa2 ja2 da2] 28) (.cells #[.bool sb1, .slice pb1 kb1 cb1, .slice qb1 jb1 db1, .bool sb2, .slice pb2 kb2 cb2, .slice qb2 jb2 db2] 28) (.cells #[.bool false, .slice none 0 0, .slice none 0 0, .bool false, .slice none 0 0, .slice none 0 0] 28)
  obtain ⟨W, hW⟩ : ∃ W, ((w.alloc (.cells #[.bool sa1, .slice pa1 ka1 ca1, .slice qa1 ja1 da1, .bool sa2, .slice pa2 ka2 ca2, .slice qa2 ja2 da2] 28)).alloc (.cells #[.bool sb1, .slice pb1 kb1 cb1, .slice qb1 jb1 db1, .bool sb2, .slice pb2 kb2 cb2, .slice qb2 jb2 db2] 28)).alloc (.cells #[.bool false, .slice none 0 0, .slice none 0 0, .bool false, .slice none 0 0, .slice none 0 0] 28) = W := ⟨_, rfl⟩
  rw [hW] at hXa hXb hXR hbw ⊢
  obtain ⟨Xa, eXa⟩ : ∃ X, w.heap.size = X := ⟨_, rfl⟩
  obtain ⟨Xb, eXb⟩ : ∃ X, Xa + 1 = X := ⟨_, rfl⟩
  obtain ⟨XR, eXR⟩ : ∃ X, Xb + 1 = X := ⟨_, rfl⟩
  rw [eXa, eXb, eXR]
  rw [eXa] at hXa hXb hXR
  rw [eXb] at hXb hXR
  rw [eXR] at hXR
  have HXa := Lib.hid hXa
  have HXb := Lib.hid hXb
  have HXR := Lib.hid hXR
  have HBW := Lib.hid hbw
  have HGEXa : Hid (w.heap.size ≤ Xa) := by unfold Hid; omega
  have HGEXb : Hid (w.heap.size ≤ Xb) := by unfold Hid; omega
  have HGEXR : Hid (w.heap.size ≤ XR) := by unfold Hid; omega
  have HLT : Hid (Xa < Xb ∧ Xb < XR) := by unfold Hid; omega
  clear hW hbw hXa hXb hXR eXa eXb eXR
  refine region_flow 13 [[], [], [1], [], [3], [0, 2, 4], [], [], [7], [], [9], [6, 8, 10], [5, 11]] [.is (.func (.func g) #[] #[]), .is (.pointer (some ⟨Xa, 0, none⟩)), .is (.agg #[.bool sa1, .slice pa1 ka1 ca1, .slice qa1 ja1 da1]), .is (.pointer (some ⟨Xb, 0, none⟩)), .is (.agg #[.bool sb1, .slice pb1 kb1 cb1, .slice qb1 jb1 db1]), .has (fun v w => RC w v R1), .is (.func (.func g) #[] #[]), .is (.pointer (some ⟨Xa, 3, none⟩)), .is (.agg #[.bool sa2, .slice pa2 ka2 ca2, .slice qa2 ja2 da2]), .is (.pointer (some ⟨Xb, 3, none⟩)), .is (.agg #[.bool sb2, .slice pb2 kb2 cb2, .slice qb2 jb2 db2]), .has (fun v w => RC w v R2), .has (fun v w => PC w v R1 R2)] (by kernel_rfl) (by kernel_rfl) rfl (by simp only [Steady]; exact ⟨fun _ _ _ h hb => h.bel hb, fun _ _ _ h hb => h.bel hb, fun _ _ _ h hb => h.bel hb, trivial⟩) ?_
  simp only [List.take_succ_cons, List.take_zero, List.drop_succ_cons, List.drop_zero]
  refine fV (by rfl) (by intro w1 hw1 hk1; go_simp) ?_
  simp only [Act.put, sA, sB, sC]
  refine fV (by rfl) (by intro w1 hw1 hk1; go_simp) ?_
  simp only [Act.put, sA, sB, sC]
  refine fV (by rfl) (by intro w1 hw1 hk1; obtain ⟨c0, c1, c2, -, -, -⟩ := boxc6 (hw1.heap HXa.out); go_simp) ?_
  simp only [Act.put, sA, sB, sC]
  refine fV (by rfl) (by intro w1 hw1 hk1; go_simp) ?_
  simp only [Act.put, sA, sB, sC]
  refine fV (by rfl) (by intro w1 hw1 hk1; obtain ⟨c0, c1, c2, -, -, -⟩ := boxc6 (hw1.heap HXb.out); go_simp) ?_
  simp only [Act.put, sA, sB, sC]
  refine flow_has (by intro w1 hw1 hk1; refine want (by rfl) (gives_call (f := g) (args := #[.agg #[.bool sa1, .slice pa1 ka1 ca1, .slice qa1 ja1 da1], .agg #[.bool sb1, .slice pb1 kb1 cb1, .slice qb1 jb1 db1]]) (by go_simp; exact HG.out _ _) ?_); exact HC1.out _ _ _ (HBW.out.trans hw1) (HPa1.out.bel (HBW.out.trans hw1)) (HPb1.out.bel (HBW.out.trans hw1))) (fun v5 => ?_)
  simp only [Act.put, sA, sB, sC]
  refine fV (by rfl) (by intro w1 hw1 hk1; go_simp) ?_
  simp only [Act.put, sA, sB, sC]
  refine fV (by rfl) (by intro w1 hw1 hk1; go_simp) ?_
  simp only [Act.put, sA, sB, sC]
  refine fV (by rfl) (by intro w1 hw1 hk1; obtain ⟨-, -, -, c3, c4, c5⟩ := boxc6 (hw1.heap HXa.out); go_simp) ?_
  simp only [Act.put, sA, sB, sC]
  refine fV (by rfl) (by intro w1 hw1 hk1; go_simp) ?_
  simp only [Act.put, sA, sB, sC]
  refine fV (by rfl) (by intro w1 hw1 hk1; obtain ⟨-, -, -, c3, c4, c5⟩ := boxc6 (hw1.heap HXb.out); go_simp) ?_
  simp only [Act.put, sA, sB, sC]
  refine flow_has (by intro w1 hw1 hk1; refine want (by rfl) (gives_call (f := g) (args := #[.agg #[.bool sa2, .slice pa2 ka2 ca2, .slice qa2 ja2 da2], .agg #[.bool sb2, .slice pb2 kb2 cb2, .slice qb2 jb2 db2]]) (by go_simp; exact HG.out _ _) ?_); exact HC2.out _ _ _ (HBW.out.trans hw1) (HPa2.out.bel (HBW.out.trans hw1)) (HPb2.out.bel (HBW.out.trans hw1))) (fun v11 => ?_)
  simp only [Act.put, sA, sB, sC]
  refine flow_has (by intro w1 hw1 hk1; obtain ⟨g11, g5, -⟩ := hk1; obtain ⟨p1, k1, c1, p2, k2, c2, rfl, -⟩ := g5.slice; obtain ⟨p3, k3, c3, p4, k4, c4, rfl, -⟩ := g11.slice; refine want (by rfl) (gives_of (c := .agg #[.bool (decide (R1.num < 0)), .slice p1 k1 c1, .slice p2 k2 c2, .bool (decide (R2.num < 0)), .slice p3 k3 c3, .slice p4 k4 c4]) (by go_simp) ?_); exact ⟨_, _, _, _, _, _, rfl, g5, g11⟩) (fun v12 => ?_)
  simp only [Act.put, sA, sB, sC]
  intro w1 hw1 hk1
  obtain ⟨g12, g11, g5, -⟩ := hk1
  obtain ⟨pr1, kr1, cr1, qr1, jr1, dr1, pr2, kr2, cr2, qr2, jr2, dr2, rfl, -, -⟩ := g12.slice
  have HV := Lib.hid g12
  have HB3 := Lib.hid hw1
  have hhXR := (HB3.out).heap HXR.out
  have HHXR := Lib.hid hhXR
  have dXR0 : w1.cell? ⟨XR, 0, none⟩ = some (.bool false) := (heap_cell hhXR 0).trans rfl
  have fXR0 : w1.frozen? ⟨XR, 0, none⟩ = false := heap_frozen hhXR 0
  have dXR1 : w1.cell? ⟨XR, 1, none⟩ = some (.slice none 0 0) := (heap_cell hhXR 1).trans rfl
  have fXR1 : w1.frozen? ⟨XR, 1, none⟩ = false := heap_frozen hhXR 1
  have dXR2 : w1.cell? ⟨XR, 2, none⟩ = some (.slice none 0 0) := (heap_cell hhXR 2).trans rfl
  have fXR2 : w1.frozen? ⟨XR, 2, none⟩ = false := heap_frozen hhXR 2
  have dXR3 : w1.cell? ⟨XR, 3, none⟩ = some (.bool false) := (heap_cell hhXR 3).trans rfl
  have fXR3 : w1.frozen? ⟨XR, 3, none⟩ = false := heap_frozen hhXR 3
  have dXR4 : w1.cell? ⟨XR, 4, none⟩ = some (.slice none 0 0) := (heap_cell hhXR 4).trans rfl
  have fXR4 : w1.frozen? ⟨XR, 4, none⟩ = false := heap_frozen hhXR 4
  have dXR5 : w1.cell? ⟨XR, 5, none⟩ = some (.slice none 0 0) := (heap_cell hhXR 5).trans rfl
  have fXR5 : w1.frozen? ⟨XR, 5, none⟩ = false := heap_frozen hhXR 5
  clear hhXR
  clear hw1 g12 g11 g5
  go_wp2
  obtain ⟨kb, kp, kh⟩ := finAll (vs := [.bool (decide (R1.num < 0)), .slice pr1 kr1 cr1, .slice qr1 jr1 dr1, .bool (decide (R2.num < 0)), .slice pr2 kr2 cr2, .slice qr2 jr2 dr2]) (HBW.out.trans HB3.out) HHXR.out rfl HGEXR.out (Φ := fun W2 => PC W2 (.agg #[.bool (decide (R1.num < 0)), .slice pr1 kr1 cr1, .slice qr1 jr1 dr1, .bool (decide (R2.num < 0)), .slice pr2 kr2 cr2, .slice qr2 jr2 dr2]) R1 R2) (fun W2 ho => HV.out.only ho HHXR.out (noInt_pt _ _ _ _ _ _ _ _ _ _ _ _ _ _))
  have kk0 : (setAll w1 XR 0 [.bool (decide (R1.num < 0)), .slice pr1 kr1 cr1, .slice qr1 jr1 dr1, .bool (decide (R2.num < 0)), .slice pr2 kr2 cr2, .slice qr2 jr2 dr2]).cell? ⟨XR, 0, none⟩ = some (.bool (decide (R1.num < 0))) := (heap_cell kh 0).trans rfl
  have kk1 : (setAll w1 XR 0 [.bool (decide (R1.num < 0)), .slice pr1 kr1 cr1, .slice qr1 jr1 dr1, .bool (decide (R2.num < 0)), .slice pr2 kr2 cr2, .slice qr2 jr2 dr2]).cell? ⟨XR, 1, none⟩ = some (.slice pr1 kr1 cr1) := (heap_cell kh 1).trans rfl
  have kk2 : (setAll w1 XR 0 [.bool (decide (R1.num < 0)), .slice pr1 kr1 cr1, .slice qr1 jr1 dr1, .bool (decide (R2.num < 0)), .slice pr2 kr2 cr2, .slice qr2 jr2 dr2]).cell? ⟨XR, 2, none⟩ = some (.slice qr1 jr1 dr1) := (heap_cell kh 2).trans rfl
  have kk3 : (setAll w1 XR 0 [.bool (decide (R1.num < 0)), .slice pr1 kr1 cr1, .slice qr1 jr1 dr1, .bool (decide (R2.num < 0)), .slice pr2 kr2 cr2, .slice qr2 jr2 dr2]).cell? ⟨XR, 3, none⟩ = some (.bool (decide (R2.num < 0))) := (heap_cell kh 3).trans rfl
  have kk4 : (setAll w1 XR 0 [.bool (decide (R1.num < 0)), .slice pr1 kr1 cr1, .slice qr1 jr1 dr1, .bool (decide (R2.num < 0)), .slice pr2 kr2 cr2, .slice qr2 jr2 dr2]).cell? ⟨XR, 4, none⟩ = some (.slice pr2 kr2 cr2) := (heap_cell kh 4).trans rfl
  have kk5 : (setAll w1 XR 0 [.bool (decide (R1.num < 0)), .slice pr1 kr1 cr1, .slice qr1 jr1 dr1, .bool (decide (R2.num < 0)), .slice pr2 kr2 cr2, .slice qr2 jr2 dr2]).cell? ⟨XR, 5, none⟩ = some (.slice qr2 jr2 dr2) := (heap_cell kh 5).trans rfl
  simp only [setAll] at kb kp kk0 kk1 kk2 kk3 kk4 kk5
  exact bodyPost_ret (v := .agg #[.bool (decide (R1.num < 0)), .slice pr1 kr1 cr1, .slice qr1 jr1 dr1, .bool (decide (R2.num < 0)), .slice pr2 kr2 cr2, .slice qr2 jr2 dr2]) (by simp [results, Tryz.results80, go_sem, kk0, kk1, kk2, kk3, kk4, kk5]) rfl ⟨_, rfl, kb, kp⟩
set_option maxHeartbeats 4000000 in
set_option maxRecDepth 100000 in
theorem mk_both1 {g : FuncId} {w : World} {a b c : Value} {x1 y1 x2 y2 R1 R2 : Rat} {i j : Nat} (HG : Hid (∀ (vs : Array Value) (X : World), (callFunc g vs).run Tryz.prog X = .ok (.enter g vs) X)) (ha : PS i w a x1 y1) (hb : PS j w b x2 y2) (HC1 : Hid (∀ X u v, Bel w X → RS i X u x1 → RS j X v x2 → Calls Tryz.prog g #[u, v, c] X (Makes X fun v w' => RC w' v R1)))
    (HC2 : Hid (∀ X u v, Bel w X → RS i X u y1 → RS j X v y2 → Calls Tryz.prog g #[u, v, c] X (Makes X fun v w' => RC w' v R2))) : Calls Tryz.prog 80 #[a, b, .func (.func g) #[] #[c]] w (Makes w fun v w' => PC w' v R1 R2) := by
  obtain ⟨sa1, pa1, ka1, ca1, qa1, ja1, da1, sa2, pa2, ka2, ca2, qa2, ja2, da2, rfl, ha1, ha2⟩ := ha.parts
  have HPa := Lib.hid ha
  have HPa1 := Lib.hid ha1
  have HPa2 := Lib.hid ha2
  clear ha ha1 ha2
  obtain ⟨sb1, pb1, kb1, cb1, qb1, jb1, db1, sb2, pb2, kb2, cb2, qb2, jb2, db2, rfl, hb1, hb2⟩ := hb.parts
  have HPb := Lib.hid hb
  have HPb1 := Lib.hid hb1
  have HPb2 := Lib.hid hb2
  clear hb hb1 hb2
  go_enter Tryz.func80, Tryz.ntmps80
  go_upto_region 1 with fail
  obtain ⟨hXa, hXb, hXR, hbw⟩ := boxes3 w (.cells #[.bool sa1, .slice pa1 ka1 ca1, .slice qa1 ja1 da1, .bool sa2, .slice pa2 ka2 ca2, .slice qa2 ja2 da2] 28) (.cells #[.bool sb1, .slice pb1 kb1 cb1, .slice qb1 jb1 db1, .bool sb2, .slice pb2 kb2 cb2, .slice qb2 jb2 db2] 28) (.cells #[.bool false, .slice none 0 0, .slice none 0 0, .bool false, .slice none 0 0, .slice none 0 0] 28)
  obtain ⟨W, hW⟩ : ∃ W, ((w.alloc (.cells #[.bool sa1, .slice pa1 ka1 ca1, .slice qa1 ja1 da1, .bool sa2, .slice pa2 ka2 ca2, .slice qa2 ja2 da2] 28)).alloc (.cells #[.bool sb1, .slice pb1 kb1 cb1, .slice qb1 jb1 db1, .bool sb2, .slice pb2 kb2 cb2, .slice qb2 jb2 db2] 28)).alloc (.cells #[.bool false, .slice none 0 0, .slice none 0 0, .bool false, .slice none 0 0, .slice none 0 0] 28) = W := ⟨_, rfl⟩
  rw [hW] at hXa hXb hXR hbw ⊢
  obtain ⟨Xa, eXa⟩ : ∃ X, w.heap.size = X := ⟨_, rfl⟩
  obtain ⟨Xb, eXb⟩ : ∃ X, Xa + 1 = X := ⟨_, rfl⟩
  obtain ⟨XR, eXR⟩ : ∃ X, Xb + 1 = X := ⟨_, rfl⟩
  rw [eXa, eXb, eXR]
  rw [eXa] at hXa hXb hXR
  rw [eXb] at hXb hXR
  rw [eXR] at hXR
  have HXa := Lib.hid hXa
  have HXb := Lib.hid hXb
  have HXR := Lib.hid hXR
  have HBW := Lib.hid hbw
  have HGEXa : Hid (w.heap.size ≤ Xa) := by unfold Hid; omega
  have HGEXb : Hid (w.heap.size ≤ Xb) := by unfold Hid; omega
  have HGEXR : Hid (w.heap.size ≤ XR) := by unfold Hid; omega
  have HLT : Hid (Xa < Xb ∧ Xb < XR) := by unfold Hid; omega
  clear hW hbw hXa hXb hXR eXa eXb eXR
  refine region_flow 13 [[], [], [1], [], [3], [0, 2, 4], [], [], [7], [], [9], [6, 8, 10], [5, 11]] [.is (.func (.func g) #[] #[c]), .is (.pointer (some ⟨Xa, 0, none⟩)), .is (.agg #[.bool sa1, .slice pa1 ka1 ca1, .slice qa1 ja1 da1]), .is (.pointer (some ⟨Xb, 0, none⟩)), .is (.agg #[.bool sb1, .slice pb1 kb1 cb1, .slice qb1 jb1 db1]), .has (fun v w => RC w v R1), .is (.func (.func g) #[] #[c]), .is (.pointer (some ⟨Xa, 3, none⟩)), .is (.agg #[.bool sa2, .slice pa2 ka2 ca2, .slice qa2 ja2 da2]), .is (.pointer (some ⟨Xb, 3, none⟩)), .is (.agg #[.bool sb2, .slice pb2 kb2 cb2, .slice qb2 jb2 db2]), .has (fun v w => RC w v R2), .has (fun v w => PC w v R1 R2)] (by kernel_rfl) (by kernel_rfl) rfl (by simp only [Steady]; exact ⟨fun _ _ _ h hb => h.bel hb, fun _ _ _ h hb => h.bel hb, fun _ _ _ h hb => h.bel hb, trivial⟩) ?_
  simp only [List.take_succ_cons, List.take_zero, List.drop_succ_cons, List.drop_zero]
  refine fV (by rfl) (by intro w1 hw1 hk1; go_simp) ?_
  simp only [Act.put, sA, sB, sC]
  refine fV (by rfl) (by intro w1 hw1 hk1; go_simp) ?_
  simp only [Act.put, sA, sB, sC]
  refine fV (by rfl) (by intro w1 hw1 hk1; obtain ⟨c0, c1, c2, -, -, -⟩ := boxc6 (hw1.heap HXa.out); go_simp) ?_
  simp only [Act.put, sA, sB, sC]
  refine fV (by rfl) (by intro w1 hw1 hk1; go_simp) ?_
  simp only [Act.put, sA, sB, sC]
  refine fV (by rfl) (by intro w1 hw1 hk1; obtain ⟨c0, c1, c2, -, -, -⟩ := boxc6 (hw1.heap HXb.out); go_simp) ?_
  simp only [Act.put, sA, sB, sC]
  refine flow_has (by intro w1 hw1 hk1; refine want (by rfl) (gives_call (f := g) (args := #[.agg #[.bool sa1, .slice pa1 ka1 ca1, .slice qa1 ja1 da1], .agg #[.bool sb1, .slice pb1 kb1 cb1, .slice qb1 jb1 db1], c]) (by go_simp; exact HG.out _ _) ?_); exact HC1.out _ _ _ (HBW.out.trans hw1) (HPa1.out.bel (HBW.out.trans hw1)) (HPb1.out.bel (HBW.out.trans hw1))) (fun v5 => ?_)
  simp only [Act.put, sA, sB, sC]
  refine fV (by rfl) (by intro w1 hw1 hk1; go_simp) ?_
  simp only [Act.put, sA, sB, sC]
  refine fV (by rfl) (by intro w1 hw1 hk1; go_simp) ?_
  simp only [Act.put, sA, sB, sC]
  refine fV (by rfl) (by intro w1 hw1 hk1; obtain ⟨-, -, -, c3, c4, c5⟩ := boxc6 (hw1.heap HXa.out); go_simp) ?_
  simp only [Act.put, sA, sB, sC]
  refine fV (by rfl) (by intro w1 hw1 hk1; go_simp) ?_
  simp only [Act.put, sA, sB, sC]
  refine fV (by rfl) (by intro w1 hw1 hk1; obtain ⟨-, -, -, c3, c4, c5⟩ := boxc6 (hw1.heap HXb.out); go_simp) ?_
  simp only [Act.put, sA, sB, sC]
  refine flow_has (by intro w1 hw1 hk1; refine want (by rfl) (gives_call (f := g) (args := #[.agg #[.bool sa2, .slice pa2 ka2 ca2, .slice qa2 ja2 da2], .agg #[.bool sb2, .slice pb2 kb2 cb2, .slice qb2 jb2 db2], c]) (by go_simp; exact HG.out _ _) ?_); exact HC2.out _ _ _ (HBW.out.trans hw1) (HPa2.out.bel (HBW.out.trans hw1)) (HPb2.out.bel (HBW.out.trans hw1))) (fun v11 => ?_)
  simp only [Act.put, sA, sB, sC]
  refine flow_has (by intro w1 hw1 hk1; obtain ⟨g11, g5, -⟩ := hk1; obtain ⟨p1, k1, c1, p2, k2, c2, rfl, -⟩ := g5.slice; obtain ⟨p3, k3, c3, p4, k4, c4, rfl, -⟩ := g11.slice; refine want (by rfl) (gives_of (c := .agg #[.bool (decide (R1.num < 0)), .slice p1 k1 c1, .slice p2 k2 c2, .bool (decide (R2.num < 0)), .slice p3 k3 c3, .slice p4 k4 c4]) (by go_simp) ?_); exact ⟨_, _, _, _, _, _, rfl, g5, g11⟩) (fun v12 => ?_)
  simp only [Act.put, sA, sB, sC]
  intro w1 hw1 hk1
  obtain ⟨g12, g11, g5, -⟩ := hk1
  obtain ⟨pr1, kr1, cr1, qr1, jr1, dr1, pr2, kr2, cr2, qr2, jr2, dr2, rfl, -, -⟩ := g12.slice
  have HV := Lib.hid g12
  have HB3 := Lib.hid hw1
  have hhXR := (HB3.out).heap HXR.out
  have HHXR := Lib.hid hhXR
  have dXR0 : w1.cell? ⟨XR, 0, none⟩ = some (.bool false) := (heap_cell hhXR 0).trans rfl
  have fXR0 : w1.frozen? ⟨XR, 0, none⟩ = false := heap_frozen hhXR 0
  have dXR1 : w1.cell? ⟨XR, 1, none⟩ = some (.slice none 0 0) := (heap_cell hhXR 1).trans rfl
  have fXR1 : w1.frozen? ⟨XR, 1, none⟩ = false := heap_frozen hhXR 1
  have dXR2 : w1.cell? ⟨XR, 2, none⟩ = some (.slice none 0 0) := (heap_cell hhXR 2).trans rfl
  have fXR2 : w1.frozen? ⟨XR, 2, none⟩ = false := heap_frozen hhXR 2
  have dXR3 : w1.cell? ⟨XR, 3, none⟩ = some (.bool false) := (heap_cell hhXR 3).trans rfl
  have fXR3 : w1.frozen? ⟨XR, 3, none⟩ = false := heap_frozen hhXR 3
  have dXR4 : w1.cell? ⟨XR, 4, none⟩ = some (.slice none 0 0) := (heap_cell hhXR 4).trans rfl
  have fXR4 : w1.frozen? ⟨XR, 4, none⟩ = false := heap_frozen hhXR 4
  have dXR5 : w1.cell? ⟨XR, 5, none⟩ = some (.slice none 0 0) := (heap_cell hhXR 5).trans rfl
  have fXR5 : w1.frozen? ⟨XR, 5, none⟩ = false := heap_frozen hhXR 5
  clear hhXR
  clear hw1 g12 g11 g5
  go_wp2
  obtain ⟨kb, kp, kh⟩ := finAll (vs := [.bool (decide (R1.num < 0)), .slice pr1 kr1 cr1, .slice qr1 jr1 dr1, .bool (decide (R2.num < 0)), .slice pr2 kr2 cr2, .slice qr2 jr2 dr2]) (HBW.out.trans HB3.out) HHXR.out rfl HGEXR.out (Φ := fun W2 => PC W2 (.agg #[.bool (decide (R1.num < 0)), .slice pr1 kr1 cr1, .slice qr1 jr1 dr1, .bool (decide (R2.num < 0)), .slice pr2 kr2 cr2, .slice qr2 jr2 dr2]) R1 R2) (fun W2 ho => HV.out.only ho HHXR.out (noInt_pt _ _ _ _ _ _ _ _ _ _ _ _ _ _))
  have kk0 : (setAll w1 XR 0 [.bool (decide (R1.num < 0)), .slice pr1 kr1 cr1, .slice qr1 jr1 dr1, .bool (decide (R2.num < 0)), .slice pr2 kr2 cr2, .slice qr2 jr2 dr2]).cell? ⟨XR, 0, none⟩ = some (.bool (decide (R1.num < 0))) := (heap_cell kh 0).trans rfl
  have kk1 : (setAll w1 XR 0 [.bool (decide (R1.num < 0)), .slice pr1 kr1 cr1, .slice qr1 jr1 dr1, .bool (decide (R2.num < 0)), .slice pr2 kr2 cr2, .slice qr2 jr2 dr2]).cell? ⟨XR, 1, none⟩ = some (.slice pr1 kr1 cr1) := (heap_cell kh 1).trans rfl
  have kk2 : (setAll w1 XR 0 [.bool (decide (R1.num < 0)), .slice pr1 kr1 cr1, .slice qr1 jr1 dr1, .bool (decide (R2.num < 0)), .slice pr2 kr2 cr2, .slice qr2 jr2 dr2]).cell? ⟨XR, 2, none⟩ = some (.slice qr1 jr1 dr1) := (heap_cell kh 2).trans rfl
  have kk3 : (setAll w1 XR 0 [.bool (decide (R1.num < 0)), .slice pr1 kr1 cr1, .slice qr1 jr1 dr1, .bool (decide (R2.num < 0)), .slice pr2 kr2 cr2, .slice qr2 jr2 dr2]).cell? ⟨XR, 3, none⟩ = some (.bool (decide (R2.num < 0))) := (heap_cell kh 3).trans rfl
  have kk4 : (setAll w1 XR 0 [.bool (decide (R1.num < 0)), .slice pr1 kr1 cr1, .slice qr1 jr1 dr1, .bool (decide (R2.num < 0)), .slice pr2 kr2 cr2, .slice qr2 jr2 dr2]).cell? ⟨XR, 4, none⟩ = some (.slice pr2 kr2 cr2) := (heap_cell kh 4).trans rfl
  have kk5 : (setAll w1 XR 0 [.bool (decide (R1.num < 0)), .slice pr1 kr1 cr1, .slice qr1 jr1 dr1, .bool (decide (R2.num < 0)), .slice pr2 kr2 cr2, .slice qr2 jr2 dr2]).cell? ⟨XR, 5, none⟩ = some (.slice qr2 jr2 dr2) := (heap_cell kh 5).trans rfl
  simp only [setAll] at kb kp kk0 kk1 kk2 kk3 kk4 kk5
  exact bodyPost_ret (v := .agg #[.bool (decide (R1.num < 0)), .slice pr1 kr1 cr1, .slice qr1 jr1 dr1, .bool (decide (R2.num < 0)), .slice pr2 kr2 cr2, .slice qr2 jr2 dr2]) (by simp [results, Tryz.results80, go_sem, kk0, kk1, kk2, kk3, kk4, kk5]) rfl ⟨_, rfl, kb, kp⟩
set_option maxHeartbeats 4000000 in
set_option maxRecDepth 100000 in
theorem mk_padd {w : World} {a b : Value} {x1 y1 x2 y2 : Rat} {i j : Nat} (ha : PS i w a x1 y1) (hb : PS j w b x2 y2) (hl : i + j < LimK) : Calls Tryz.prog 21 #[a, b] w (Makes w fun v w' => PC w' v (x1 + x2) (y1 + y2)) := by
  have HD := Lib.hid (fun X (hX : Bel w X) => mk_both0 (g := 47) (Lib.hid (fun _ _ => by go_simp)) (ha.bel hX) (hb.bel hX) (Lib.hid (fun Y u v _ hu hv => mk_radd hu hv hl)) (Lib.hid (fun Y u v _ hu hv => mk_radd hu hv hl)))
  obtain ⟨R1, hR1⟩ : ∃ Z, x1 + x2 = Z := ⟨_, rfl⟩
  obtain ⟨R2, hR2⟩ : ∃ Z, y1 + y2 = Z := ⟨_, rfl⟩
  rw [hR1, hR2] at HD ⊢
  clear hR1 hR2 hl
  obtain ⟨sa1, pa1, ka1, ca1, qa1, ja1, da1, sa2, pa2, ka2, ca2, qa2, ja2, da2, rfl, ha1, ha2⟩ := ha.parts
  have HPa := Lib.hid ha
  have HPa1 := Lib.hid ha1
  have HPa2 := Lib.hid ha2
  clear ha ha1 ha2
  obtain ⟨sb1, pb1, kb1, cb1, qb1, jb1, db1, sb2, pb2, kb2, cb2, qb2, jb2, db2, rfl, hb1, hb2⟩ := hb.parts
  have HPb := Lib.hid hb
  have HPb1 := Lib.hid hb1
  have HPb2 := Lib.hid hb2
  clear hb hb1 hb2
  go_enter Tryz.func21, Tryz.ntmps21
  go_upto_region 1 with fail
  obtain ⟨hXa, hXb, hXR, hbw⟩ := boxes3 w (.cells #[.bool sa1, .slice pa1 ka1 ca1, .slice qa1 ja1 da1, .bool sa2, .slice pa2 ka2 ca2, .slice qa2 ja2 da2] 28) (.cells #[.bool sb1, .slice pb1 kb1 cb1, .slice qb1 jb1 db1, .bool sb2, .slice pb2 kb2 cb2, .slice qb2 jb2 db2] 28) (.cells #[.bool false, .slice none 0 0, .slice none 0 0, .bool false, .slice none 0 0, .slice none 0 0] 28)
  obtain ⟨W, hW⟩ : ∃ W, ((w.alloc (.cells #[.bool sa1, .slice pa1 ka1 ca1, .slice qa1 ja1 da1, .bool sa2, .slice pa2 ka2 ca2, .slice qa2 ja2 da2] 28)).alloc (.cells #[.bool sb1, .slice pb1 kb1 cb1, .slice qb1 jb1 db1, .bool sb2, .slice pb2 kb2 cb2, .slice qb2 jb2 db2] 28)).alloc (.cells #[.bool false, .slice none 0 0, .slice none 0 0, .bool false, .slice none 0 0, .slice none 0 0] 28) = W := ⟨_, rfl⟩
  rw [hW] at hXa hXb hXR hbw ⊢
  obtain ⟨Xa, eXa⟩ : ∃ X, w.heap.size = X := ⟨_, rfl⟩
  obtain ⟨Xb, eXb⟩ : ∃ X, Xa + 1 = X := ⟨_, rfl⟩
  obtain ⟨XR, eXR⟩ : ∃ X, Xb + 1 = X := ⟨_, rfl⟩
  rw [eXa, eXb, eXR]
  rw [eXa] at hXa hXb hXR
  rw [eXb] at hXb hXR
  rw [eXR] at hXR
  have HXa := Lib.hid hXa
  have HXb := Lib.hid hXb
  have HXR := Lib.hid hXR
  have HBW := Lib.hid hbw
  have HGEXa : Hid (w.heap.size ≤ Xa) := by unfold Hid; omega
  have HGEXb : Hid (w.heap.size ≤ Xb) := by unfold Hid; omega
  have HGEXR : Hid (w.heap.size ≤ XR) := by unfold Hid; omega
  have HLT : Hid (Xa < Xb ∧ Xb < XR) := by unfold Hid; omega
  clear hW hbw hXa hXb hXR eXa eXb eXR
  refine line_region 3 [[], [], [0, 1]] [.is (.agg #[.bool sa1, .slice pa1 ka1 ca1, .slice qa1 ja1 da1, .bool sa2, .slice pa2 ka2 ca2, .slice qa2 ja2 da2]), .is (.agg #[.bool sb1, .slice pb1 kb1 cb1, .slice qb1 jb1 db1, .bool sb2, .slice pb2 kb2 cb2, .slice qb2 jb2 db2]), .has (fun v w => PC w v R1 R2)] rfl rfl (by decide) (by simp only [Steady]; exact ⟨fun _ _ _ h hb => h.bel hb, trivial⟩) ?_
  simp only [List.take_succ_cons, List.take_zero, List.drop_succ_cons, List.drop_zero]
  refine fV (by rfl) (by intro w1 hw1 hk1; obtain ⟨c0, c1, c2, c3, c4, c5⟩ := boxc6 (hw1.heap HXa.out); go_simp) ?_
  simp only [Act.put, sA, sB, sC]
  refine fV (by rfl) (by intro w1 hw1 hk1; obtain ⟨c0, c1, c2, c3, c4, c5⟩ := boxc6 (hw1.heap HXb.out); go_simp) ?_
  simp only [Act.put, sA, sB, sC]
  refine fH (by rfl) (by intro w1 hw1 hk1; exact HD.out _ (HBW.out.trans hw1)) (by intro; go_simp) (fun v2 => ?_)
  simp only [Act.put, sA, sB, sC]
  intro w1 hw1 hk1
  obtain ⟨g2, -⟩ := hk1
  obtain ⟨pr1, kr1, cr1, qr1, jr1, dr1, pr2, kr2, cr2, qr2, jr2, dr2, rfl, -, -⟩ := g2.slice
  have HV := Lib.hid g2
  have HB3 := Lib.hid hw1
  have hhXR := (HB3.out).heap HXR.out
  have HHXR := Lib.hid hhXR
  have dXR0 : w1.cell? ⟨XR, 0, none⟩ = some (.bool false) := (heap_cell hhXR 0).trans rfl
  have fXR0 : w1.frozen? ⟨XR, 0, none⟩ = false := heap_frozen hhXR 0
  have dXR1 : w1.cell? ⟨XR, 1, none⟩ = some (.slice none 0 0) := (heap_cell hhXR 1).trans rfl
  have fXR1 : w1.frozen? ⟨XR, 1, none⟩ = false := heap_frozen hhXR 1
  have dXR2 : w1.cell? ⟨XR, 2, none⟩ = some (.slice none 0 0) := (heap_cell hhXR 2).trans rfl
  have fXR2 : w1.frozen? ⟨XR, 2, none⟩ = false := heap_frozen hhXR 2
  have dXR3 : w1.cell? ⟨XR, 3, none⟩ = some (.bool false) := (heap_cell hhXR 3).trans rfl
  have fXR3 : w1.frozen? ⟨XR, 3, none⟩ = false := heap_frozen hhXR 3
  have dXR4 : w1.cell? ⟨XR, 4, none⟩ = some (.slice none 0 0) := (heap_cell hhXR 4).trans rfl
  have fXR4 : w1.frozen? ⟨XR, 4, none⟩ = false := heap_frozen hhXR 4
  have dXR5 : w1.cell? ⟨XR, 5, none⟩ = some (.slice none 0 0) := (heap_cell hhXR 5).trans rfl
  have fXR5 : w1.frozen? ⟨XR, 5, none⟩ = false := heap_frozen hhXR 5
  clear hhXR
  clear hw1 g2 HD
  go_wp2
  obtain ⟨kb, kp, kh⟩ := finAll (vs := [.bool (decide (R1.num < 0)), .slice pr1 kr1 cr1, .slice qr1 jr1 dr1, .bool (decide (R2.num < 0)), .slice pr2 kr2 cr2, .slice qr2 jr2 dr2]) (HBW.out.trans HB3.out) HHXR.out rfl HGEXR.out (Φ := fun W2 => PC W2 (.agg #[.bool (decide (R1.num < 0)), .slice pr1 kr1 cr1, .slice qr1 jr1 dr1, .bool (decide (R2.num < 0)), .slice pr2 kr2 cr2, .slice qr2 jr2 dr2]) R1 R2) (fun W2 ho => HV.out.only ho HHXR.out (noInt_pt _ _ _ _ _ _ _ _ _ _ _ _ _ _))
  have kk0 : (setAll w1 XR 0 [.bool (decide (R1.num < 0)), .slice pr1 kr1 cr1, .slice qr1 jr1 dr1, .bool (decide (R2.num < 0)), .slice pr2 kr2 cr2, .slice qr2 jr2 dr2]).cell? ⟨XR, 0, none⟩ = some (.bool (decide (R1.num < 0))) := (heap_cell kh 0).trans rfl
  have kk1 : (setAll w1 XR 0 [.bool (decide (R1.num < 0)), .slice pr1 kr1 cr1, .slice qr1 jr1 dr1, .bool (decide (R2.num < 0)), .slice pr2 kr2 cr2, .slice qr2 jr2 dr2]).cell? ⟨XR, 1, none⟩ = some (.slice pr1 kr1 cr1) := (heap_cell kh 1).trans rfl
  have kk2 : (setAll w1 XR 0 [.bool (decide (R1.num < 0)), .slice pr1 kr1 cr1, .slice qr1 jr1 dr1, .bool (decide (R2.num < 0)), .slice pr2 kr2 cr2, .slice qr2 jr2 dr2]).cell? ⟨XR, 2, none⟩ = some (.slice qr1 jr1 dr1) := (heap_cell kh 2).trans rfl
  have kk3 : (setAll w1 XR 0 [.bool (decide (R1.num < 0)), .slice pr1 kr1 cr1, .slice qr1 jr1 dr1, .bool (decide (R2.num < 0)), .slice pr2 kr2 cr2, .slice qr2 jr2 dr2]).cell? ⟨XR, 3, none⟩ = some (.bool (decide (R2.num < 0))) := (heap_cell kh 3).trans rfl
  have kk4 : (setAll w1 XR 0 [.bool (decide (R1.num < 0)), .slice pr1 kr1 cr1, .slice qr1 jr1 dr1, .bool (decide (R2.num < 0)), .slice pr2 kr2 cr2, .slice qr2 jr2 dr2]).cell? ⟨XR, 4, none⟩ = some (.slice pr2 kr2 cr2) := (heap_cell kh 4).trans rfl
  have kk5 : (setAll w1 XR 0 [.bool (decide (R1.num < 0)), .slice pr1 kr1 cr1, .slice qr1 jr1 dr1, .bool (decide (R2.num < 0)), .slice pr2 kr2 cr2, .slice qr2 jr2 dr2]).cell? ⟨XR, 5, none⟩ = some (.slice qr2 jr2 dr2) := (heap_cell kh 5).trans rfl
  simp only [setAll] at kb kp kk0 kk1 kk2 kk3 kk4 kk5
  exact bodyPost_ret (v := .agg #[.bool (decide (R1.num < 0)), .slice pr1 kr1 cr1, .slice qr1 jr1 dr1, .bool (decide (R2.num < 0)), .slice pr2 kr2 cr2, .slice qr2 jr2 dr2]) (by simp [results, Tryz.results21, go_sem, kk0, kk1, kk2, kk3, kk4, kk5]) rfl ⟨_, rfl, kb, kp⟩
set_option maxHeartbeats 4000000 in
set_option maxRecDepth 100000 in
theorem mk_psub {w : World} {a b : Value} {x1 y1 x2 y2 : Rat} {i j : Nat} (ha : PS i w a x1 y1) (hb : PS j w b x2 y2) (hl : i + j < LimK) : Calls Tryz.prog 23 #[a, b] w (Makes w fun v w' => PC w' v (x1 - x2) (y1 - y2)) := by
  have HD := Lib.hid (fun X (hX : Bel w X) => mk_both0 (g := 49) (Lib.hid (fun _ _ => by go_simp)) (ha.bel hX) (hb.bel hX) (Lib.hid (fun Y u v _ hu hv => mk_rsub hu hv hl)) (Lib.hid (fun Y u v _ hu hv => mk_rsub hu hv hl)))
  obtain ⟨R1, hR1⟩ : ∃ Z, x1 - x2 = Z := ⟨_, rfl⟩
  obtain ⟨R2, hR2⟩ : ∃ Z, y1 - y2 = Z := ⟨_, rfl⟩
  rw [hR1, hR2] at HD ⊢
  clear hR1 hR2 hl
  obtain ⟨sa1, pa1, ka1, ca1, qa1, ja1, da1, sa2, pa2, ka2, ca2, qa2, ja2, da2, rfl, ha1, ha2⟩ := ha.parts
  have HPa := Lib.hid ha
  have HPa1 := Lib.hid ha1
  have HPa2 := Lib.hid ha2
  clear ha ha1 ha2
  obtain ⟨sb1, pb1, kb1, cb1, qb1, jb1, db1, sb2, pb2, kb2, cb2, qb2, jb2, db2, rfl, hb1, hb2⟩ := hb.parts
  have HPb := Lib.hid hb
  have HPb1 := Lib.hid hb1
  have HPb2 := Lib.hid hb2
  clear hb hb1 hb2
  go_enter Tryz.func23, Tryz.ntmps23
  go_upto_region 1 with fail
  obtain ⟨hXa, hXb, hXR, hbw⟩ := boxes3 w (.cells #[.bool sa1, .slice pa1 ka1 ca1, .slice qa1 ja1 da1, .bool sa2, .slice pa2 ka2 ca2, .slice qa2 ja2 da2] 28) (.cells #[.bool sb1, .slice pb1 kb1 cb1, .slice qb1 jb1 db1, .bool sb2, .slice pb2 kb2 cb2, .slice qb2 jb2 db2] 28) (.cells #[.bool false, .slice none 0 0, .slice none 0 0, .bool false, .slice none 0 0, .slice none 0 0] 28)
  obtain ⟨W, hW⟩ : ∃ W, ((w.alloc (.cells #[.bool sa1, .slice pa1 ka1 ca1, .slice qa1 ja1 da1, .bool sa2, .slice pa2 ka2 ca2, .slice qa2 ja2 da2] 28)).alloc (.cells #[.bool sb1, .slice pb1 kb1 cb1, .slice qb1 jb1 db1, .bool sb2, .slice pb2 kb2 cb2, .slice qb2 jb2 db2] 28)).alloc (.cells #[.bool false, .slice none 0 0, .slice none 0 0, .bool false, .slice none 0 0, .slice none 0 0] 28) = W := ⟨_, rfl⟩
  rw [hW] at hXa hXb hXR hbw ⊢
  obtain ⟨Xa, eXa⟩ : ∃ X, w.heap.size = X := ⟨_, rfl⟩
  obtain ⟨Xb, eXb⟩ : ∃ X, Xa + 1 = X := ⟨_, rfl⟩
  obtain ⟨XR, eXR⟩ : ∃ X, Xb + 1 = X := ⟨_, rfl⟩
  rw [eXa, eXb, eXR]
  rw [eXa] at hXa hXb hXR
  rw [eXb] at hXb hXR
  rw [eXR] at hXR
  have HXa := Lib.hid hXa
  have HXb := Lib.hid hXb
  have HXR := Lib.hid hXR
  have HBW := Lib.hid hbw
  have HGEXa : Hid (w.heap.size ≤ Xa) := by unfold Hid; omega
  have HGEXb : Hid (w.heap.size ≤ Xb) := by unfold Hid; omega
  have HGEXR : Hid (w.heap.size ≤ XR) := by unfold Hid; omega
  have HLT : Hid (Xa < Xb ∧ Xb < XR) := by unfold Hid; omega
  clear hW hbw hXa hXb hXR eXa eXb eXR
  refine line_region 3 [[], [], [0, 1]] [.is (.agg #[.bool sa1, .slice pa1 ka1 ca1, .slice qa1 ja1 da1, .bool sa2, .slice pa2 ka2 ca2, .slice qa2 ja2 da2]), .is (.agg #[.bool sb1, .slice pb1 kb1 cb1, .slice qb1 jb1 db1, .bool sb2, .slice pb2 kb2 cb2, .slice qb2 jb2 db2]), .has (fun v w => PC w v R1 R2)] rfl rfl (by decide) (by simp only [Steady]; exact ⟨fun _ _ _ h hb => h.bel hb, trivial⟩) ?_
  simp only [List.take_succ_cons, List.take_zero, List.drop_succ_cons, List.drop_zero]
  refine fV (by rfl) (by intro w1 hw1 hk1; obtain ⟨c0, c1, c2, c3, c4, c5⟩ := boxc6 (hw1.heap HXa.out); go_simp) ?_
  simp only [Act.put, sA, sB, sC]
  refine fV (by rfl) (by intro w1 hw1 hk1; obtain ⟨c0, c1, c2, c3, c4, c5⟩ := boxc6 (hw1.heap HXb.out); go_simp) ?_
  simp only [Act.put, sA, sB, sC]
  refine fH (by rfl) (by intro w1 hw1 hk1; exact HD.out _ (HBW.out.trans hw1)) (by intro; go_simp) (fun v2 => ?_)
  simp only [Act.put, sA, sB, sC]
  intro w1 hw1 hk1
  obtain ⟨g2, -⟩ := hk1
  obtain ⟨pr1, kr1, cr1, qr1, jr1, dr1, pr2, kr2, cr2, qr2, jr2, dr2, rfl, -, -⟩ := g2.slice
  have HV := Lib.hid g2
  have HB3 := Lib.hid hw1
  have hhXR := (HB3.out).heap HXR.out
  have HHXR := Lib.hid hhXR
  have dXR0 : w1.cell? ⟨XR, 0, none⟩ = some (.bool false) := (heap_cell hhXR 0).trans rfl
  have fXR0 : w1.frozen? ⟨XR, 0, none⟩ = false := heap_frozen hhXR 0
  have dXR1 : w1.cell? ⟨XR, 1, none⟩ = some (.slice none 0 0) := (heap_cell hhXR 1).trans rfl
  have fXR1 : w1.frozen? ⟨XR, 1, none⟩ = false := heap_frozen hhXR 1
  have dXR2 : w1.cell? ⟨XR, 2, none⟩ = some (.slice none 0 0) := (heap_cell hhXR 2).trans rfl
  have fXR2 : w1.frozen? ⟨XR, 2, none⟩ = false := heap_frozen hhXR 2
  have dXR3 : w1.cell? ⟨XR, 3, none⟩ = some (.bool false) := (heap_cell hhXR 3).trans rfl
  have fXR3 : w1.frozen? ⟨XR, 3, none⟩ = false := heap_frozen hhXR 3
  have dXR4 : w1.cell? ⟨XR, 4, none⟩ = some (.slice none 0 0) := (heap_cell hhXR 4).trans rfl
  have fXR4 : w1.frozen? ⟨XR, 4, none⟩ = false := heap_frozen hhXR 4
  have dXR5 : w1.cell? ⟨XR, 5, none⟩ = some (.slice none 0 0) := (heap_cell hhXR 5).trans rfl
  have fXR5 : w1.frozen? ⟨XR, 5, none⟩ = false := heap_frozen hhXR 5
  clear hhXR
  clear hw1 g2 HD
  go_wp2
  obtain ⟨kb, kp, kh⟩ := finAll (vs := [.bool (decide (R1.num < 0)), .slice pr1 kr1 cr1, .slice qr1 jr1 dr1, .bool (decide (R2.num < 0)), .slice pr2 kr2 cr2, .slice qr2 jr2 dr2]) (HBW.out.trans HB3.out) HHXR.out rfl HGEXR.out (Φ := fun W2 => PC W2 (.agg #[.bool (decide (R1.num < 0)), .slice pr1 kr1 cr1, .slice qr1 jr1 dr1, .bool (decide (R2.num < 0)), .slice pr2 kr2 cr2, .slice qr2 jr2 dr2]) R1 R2) (fun W2 ho => HV.out.only ho HHXR.out (noInt_pt _ _ _ _ _ _ _ _ _ _ _ _ _ _))
  have kk0 : (setAll w1 XR 0 [.bool (decide (R1.num < 0)), .slice pr1 kr1 cr1, .slice qr1 jr1 dr1, .bool (decide (R2.num < 0)), .slice pr2 kr2 cr2, .slice qr2 jr2 dr2]).cell? ⟨XR, 0, none⟩ = some (.bool (decide (R1.num < 0))) := (heap_cell kh 0).trans rfl
  have kk1 : (setAll w1 XR 0 [.bool (decide (R1.num < 0)), .slice pr1 kr1 cr1, .slice qr1 jr1 dr1, .bool (decide (R2.num < 0)), .slice pr2 kr2 cr2, .slice qr2 jr2 dr2]).cell? ⟨XR, 1, none⟩ = some (.slice pr1 kr1 cr1) := (heap_cell kh 1).trans rfl
  have kk2 : (setAll w1 XR 0 [.bool (decide (R1.num < 0)), .slice pr1 kr1 cr1, .slice qr1 jr1 dr1, .bool (decide (R2.num < 0)), .slice pr2 kr2 cr2, .slice qr2 jr2 dr2]).cell? ⟨XR, 2, none⟩ = some (.slice qr1 jr1 dr1) := (heap_cell kh 2).trans rfl
  have kk3 : (setAll w1 XR 0 [.bool (decide (R1.num < 0)), .slice pr1 kr1 cr1, .slice qr1 jr1 dr1, .bool (decide (R2.num < 0)), .slice pr2 kr2 cr2, .slice qr2 jr2 dr2]).cell? ⟨XR, 3, none⟩ = some (.bool (decide (R2.num < 0))) := (heap_cell kh 3).trans rfl
  have kk4 : (setAll w1 XR 0 [.bool (decide (R1.num < 0)), .slice pr1 kr1 cr1, .slice qr1 jr1 dr1, .bool (decide (R2.num < 0)), .slice pr2 kr2 cr2, .slice qr2 jr2 dr2]).cell? ⟨XR, 4, none⟩ = some (.slice pr2 kr2 cr2) := (heap_cell kh 4).trans rfl
  have kk5 : (setAll w1 XR 0 [.bool (decide (R1.num < 0)), .slice pr1 kr1 cr1, .slice qr1 jr1 dr1, .bool (decide (R2.num < 0)), .slice pr2 kr2 cr2, .slice qr2 jr2 dr2]).cell? ⟨XR, 5, none⟩ = some (.slice qr2 jr2 dr2) := (heap_cell kh 5).trans rfl
  simp only [setAll] at kb kp kk0 kk1 kk2 kk3 kk4 kk5
  exact bodyPost_ret (v := .agg #[.bool (decide (R1.num < 0)), .slice pr1 kr1 cr1, .slice qr1 jr1 dr1, .bool (decide (R2.num < 0)), .slice pr2 kr2 cr2, .slice qr2 jr2 dr2]) (by simp [results, Tryz.results23, go_sem, kk0, kk1, kk2, kk3, kk4, kk5]) rfl ⟨_, rfl, kb, kp⟩
set_option maxHeartbeats 4000000 in
set_option maxRecDepth 100000 in
theorem mk_dot {w : World} {a b : Value} {x1 y1 x2 y2 : Rat} {i j : Nat} (ha : PS i w a x1 y1) (hb : PS j w b x2 y2) (hl : i + j + (i + j) < LimK) : Calls Tryz.prog 30 #[a, b] w (Makes w fun v w' => RC w' v (x1 * x2 + y1 * y2)) := by
  obtain ⟨_, _, _, _, _, _, -, hx1, hy1⟩ := id ha
  obtain ⟨_, _, _, _, _, _, -, hx2, hy2⟩ := id hb
  have s1 : Sz (i + j) (x1 * x2) := hx1.2.mul hx2.2
  have s2 : Sz (i + j) (y1 * y2) := hy1.2.mul hy2.2
  have HM : Hid (∀ (X : World) (u v : Value) (p q : Rat), RS i X u p → RS j X v q → _) := fun X u v p q hu hv => mk_rmul hu hv (by omega)
  have HD : Hid (∀ X u v, RC X u (x1 * x2) → RC X v (y1 * y2) → _) := fun X u v hu hv => mk_radd (hu.rs s1 (by omega)) (hv.rs s2 (by omega)) hl
  obtain ⟨R, hR⟩ : ∃ Z, x1 * x2 + y1 * y2 = Z := ⟨_, rfl⟩
  rw [hR] at HD ⊢
  have HM1 : Hid (∀ (X : World) (u v : Value), RS i X u x1 → RS j X v x2 → _) := fun X u v hu hv => HM.out X u v _ _ hu hv
  have HM2 : Hid (∀ (X : World) (u v : Value), RS i X u y1 → RS j X v y2 → _) := fun X u v hu hv => HM.out X u v _ _ hu hv
  obtain ⟨M1, hM1⟩ : ∃ Z, x1 * x2 = Z := ⟨_, rfl⟩
  obtain ⟨M2, hM2⟩ : ∃ Z, y1 * y2 = Z := ⟨_, rfl⟩
  rw [hM1] at HM1 HD
  rw [hM2] at HM2 HD
  clear hR hl hx1 hx2 hy1 hy2 s1 s2 hM1 hM2 HM
  obtain ⟨sa1, pa1, ka1, ca1, qa1, ja1, da1, sa2, pa2, ka2, ca2, qa2, ja2, da2, rfl, ha1, ha2⟩ := ha.parts
  have HPa := Lib.hid ha
  have HPa1 := Lib.hid ha1
  have HPa2 := Lib.hid ha2
  clear ha ha1 ha2
  obtain ⟨sb1, pb1, kb1, cb1, qb1, jb1, db1, sb2, pb2, kb2, cb2, qb2, jb2, db2, rfl, hb1, hb2⟩ := hb.parts
  have HPb := Lib.hid hb
  have HPb1 := Lib.hid hb1
  have HPb2 := Lib.hid hb2
  clear hb hb1 hb2
  go_enter Tryz.func30, Tryz.ntmps30
  go_upto_region 1 with fail
  obtain ⟨hXa, hXb, hXR, hbw⟩ := boxes3 w (.cells #[.bool sa1, .slice pa1 ka1 ca1, .slice qa1 ja1 da1, .bool sa2, .slice pa2 ka2 ca2, .slice qa2 ja2 da2] 28) (.cells #[.bool sb1, .slice pb1 kb1 cb1, .slice qb1 jb1 db1, .bool sb2, .slice pb2 kb2 cb2, .slice qb2 jb2 db2] 28) (.cells #[.bool false, .slice none 0 0, .slice none 0 0] 26)
  obtain ⟨W, hW⟩ : ∃ W, ((w.alloc (.cells #[.bool sa1, .slice pa1 ka1 ca1, .slice qa1 ja1 da1, .bool sa2, .slice pa2 ka2 ca2, .slice qa2 ja2 da2] 28)).alloc (.cells #[.bool sb1, .slice pb1 kb1 cb1, .slice qb1 jb1 db1, .bool sb2, .slice pb2 kb2 cb2, .slice qb2 jb2 db2] 28)).alloc (.cells #[.bool false, .slice none 0 0, .slice none 0 0] 26) = W := ⟨_, rfl⟩
  rw [hW] at hXa hXb hXR hbw ⊢
  obtain ⟨Xa, eXa⟩ : ∃ X, w.heap.size = X := ⟨_, rfl⟩
  obtain ⟨Xb, eXb⟩ : ∃ X, Xa + 1 = X := ⟨_, rfl⟩
  obtain ⟨XR, eXR⟩ : ∃ X, Xb + 1 = X := ⟨_, rfl⟩
  rw [eXa, eXb, eXR]
  rw [eXa] at hXa hXb hXR
  rw [eXb] at hXb hXR
  rw [eXR] at hXR
  have HXa := Lib.hid hXa
  have HXb := Lib.hid hXb
  have HXR := Lib.hid hXR
  have HBW := Lib.hid hbw
  have HGEXa : Hid (w.heap.size ≤ Xa) := by unfold Hid; omega
  have HGEXb : Hid (w.heap.size ≤ Xb) := by unfold Hid; omega
  have HGEXR : Hid (w.heap.size ≤ XR) := by unfold Hid; omega
  have HLT : Hid (Xa < Xb ∧ Xb < XR) := by unfold Hid; omega
  clear hW hbw hXa hXb hXR eXa eXb eXR
  refine region_flow 11 [[], [0], [], [2], [1, 3], [], [5], [], [7], [6, 8], [4, 9]] [.is (.pointer (some ⟨Xa, 0, none⟩)), .is (.agg #[.bool sa1, .slice pa1 ka1 ca1, .slice qa1 ja1 da1]), .is (.pointer (some ⟨Xb, 0, none⟩)), .is (.agg #[.bool sb1, .slice pb1 kb1 cb1, .slice qb1 jb1 db1]), .has (fun v w => RC w v M1), .is (.pointer (some ⟨Xa, 3, none⟩)), .is (.agg #[.bool sa2, .slice pa2 ka2 ca2, .slice qa2 ja2 da2]), .is (.pointer (some ⟨Xb, 3, none⟩)), .is (.agg #[.bool sb2, .slice pb2 kb2 cb2, .slice qb2 jb2 db2]), .has (fun v w => RC w v M2), .has (fun v w => RC w v R)] (by kernel_rfl) (by kernel_rfl) rfl (by simp only [Steady]; exact ⟨fun _ _ _ h hb => h.bel hb, fun _ _ _ h hb => h.bel hb, fun _ _ _ h hb => h.bel hb, trivial⟩) ?_
  simp only [List.take_succ_cons, List.take_zero, List.drop_succ_cons, List.drop_zero]
  refine fV (by rfl) (by intro w1 hw1 hk1; go_simp) ?_
  simp only [Act.put, sA, sB, sC]
  refine fV (by rfl) (by intro w1 hw1 hk1; obtain ⟨c0, c1, c2, -, -, -⟩ := boxc6 (hw1.heap HXa.out); go_simp) ?_
  simp only [Act.put, sA, sB, sC]
  refine fV (by rfl) (by intro w1 hw1 hk1; go_simp) ?_
  simp only [Act.put, sA, sB, sC]
  refine fV (by rfl) (by intro w1 hw1 hk1; obtain ⟨c0, c1, c2, -, -, -⟩ := boxc6 (hw1.heap HXb.out); go_simp) ?_
  simp only [Act.put, sA, sB, sC]
  refine fH (by rfl) (by intro w1 hw1 hk1; exact HM1.out _ _ _ (HPa1.out.bel (HBW.out.trans hw1)) (HPb1.out.bel (HBW.out.trans hw1))) (by intro; go_simp) (fun v4 => ?_)
  simp only [Act.put, sA, sB, sC]
  refine fV (by rfl) (by intro w1 hw1 hk1; go_simp) ?_
  simp only [Act.put, sA, sB, sC]
  refine fV (by rfl) (by intro w1 hw1 hk1; obtain ⟨-, -, -, c3, c4, c5⟩ := boxc6 (hw1.heap HXa.out); go_simp) ?_
  simp only [Act.put, sA, sB, sC]
  refine fV (by rfl) (by intro w1 hw1 hk1; go_simp) ?_
  simp only [Act.put, sA, sB, sC]
  refine fV (by rfl) (by intro w1 hw1 hk1; obtain ⟨-, -, -, c3, c4, c5⟩ := boxc6 (hw1.heap HXb.out); go_simp) ?_
  simp only [Act.put, sA, sB, sC]
  refine fH (by rfl) (by intro w1 hw1 hk1; exact HM2.out _ _ _ (HPa2.out.bel (HBW.out.trans hw1)) (HPb2.out.bel (HBW.out.trans hw1))) (by intro; go_simp) (fun v9 => ?_)
  simp only [Act.put, sA, sB, sC]
  refine fH (by rfl) (by intro w1 hw1 hk1; obtain ⟨g9, g4, -⟩ := hk1; exact HD.out _ _ _ g4 g9) (by intro; go_simp) (fun v10 => ?_)
  simp only [Act.put, sA, sB, sC]
  intro w1 hw1 hk1
  obtain ⟨g10, g9, g4, -⟩ := hk1
  obtain ⟨pr1, kr1, cr1, qr1, jr1, dr1, rfl, -, -⟩ := g10.slice
  have HV := Lib.hid g10
  have HB3 := Lib.hid hw1
  have hhXR := (HB3.out).heap HXR.out
  have HHXR := Lib.hid hhXR
  have dXR0 : w1.cell? ⟨XR, 0, none⟩ = some (.bool false) := (heap_cell hhXR 0).trans rfl
  have fXR0 : w1.frozen? ⟨XR, 0, none⟩ = false := heap_frozen hhXR 0
  have dXR1 : w1.cell? ⟨XR, 1, none⟩ = some (.slice none 0 0) := (heap_cell hhXR 1).trans rfl
  have fXR1 : w1.frozen? ⟨XR, 1, none⟩ = false := heap_frozen hhXR 1
  have dXR2 : w1.cell? ⟨XR, 2, none⟩ = some (.slice none 0 0) := (heap_cell hhXR 2).trans rfl
  have fXR2 : w1.frozen? ⟨XR, 2, none⟩ = false := heap_frozen hhXR 2
  clear hhXR
  clear hw1 g10 g9 g4 HM1 HM2 HD
  go_wp2
  obtain ⟨kb, kp, kh⟩ := finAll (vs := [.bool (decide (R.num < 0)), .slice pr1 kr1 cr1, .slice qr1 jr1 dr1]) (HBW.out.trans HB3.out) HHXR.out rfl HGEXR.out (Φ := fun W2 => RC W2 (.agg #[.bool (decide (R.num < 0)), .slice pr1 kr1 cr1, .slice qr1 jr1 dr1]) R) (fun W2 ho => HV.out.only ho HHXR.out (noInt_rat _ _ _ _ _ _ _))
  have kk0 : (setAll w1 XR 0 [.bool (decide (R.num < 0)), .slice pr1 kr1 cr1, .slice qr1 jr1 dr1]).cell? ⟨XR, 0, none⟩ = some (.bool (decide (R.num < 0))) := (heap_cell kh 0).trans rfl
  have kk1 : (setAll w1 XR 0 [.bool (decide (R.num < 0)), .slice pr1 kr1 cr1, .slice qr1 jr1 dr1]).cell? ⟨XR, 1, none⟩ = some (.slice pr1 kr1 cr1) := (heap_cell kh 1).trans rfl
  have kk2 : (setAll w1 XR 0 [.bool (decide (R.num < 0)), .slice pr1 kr1 cr1, .slice qr1 jr1 dr1]).cell? ⟨XR, 2, none⟩ = some (.slice qr1 jr1 dr1) := (heap_cell kh 2).trans rfl
  simp only [setAll] at kb kp kk0 kk1 kk2
  exact bodyPost_ret (v := .agg #[.bool (decide (R.num < 0)), .slice pr1 kr1 cr1, .slice qr1 jr1 dr1]) (by simp [results, Tryz.results30, go_sem, kk0, kk1, kk2]) rfl ⟨_, rfl, kb, kp⟩
set_option maxHeartbeats 4000000 in
set_option maxRecDepth 100000 in
theorem mk_cross {w : World} {a b : Value} {x1 y1 x2 y2 : Rat} {i j : Nat} (ha : PS i w a x1 y1) (hb : PS j w b x2 y2) (hl : i + j + (i + j) < LimK) : Calls Tryz.prog 32 #[a, b] w (Makes w fun v w' => RC w' v (x1 * y2 - y1 * x2)) := by
  obtain ⟨_, _, _, _, _, _, -, hx1, hy1⟩ := id ha
  obtain ⟨_, _, _, _, _, _, -, hx2, hy2⟩ := id hb
  have s1 : Sz (i + j) (x1 * y2) := hx1.2.mul hy2.2
  have s2 : Sz (i + j) (y1 * x2) := hy1.2.mul hx2.2
  have HM : Hid (∀ (X : World) (u v : Value) (p q : Rat), RS i X u p → RS j X v q → _) := fun X u v p q hu hv => mk_rmul hu hv (by omega)
  have HD : Hid (∀ X u v, RC X u (x1 * y2) → RC X v (y1 * x2) → _) := fun X u v hu hv => mk_rsub (hu.rs s1 (by omega)) (hv.rs s2 (by omega)) hl
  obtain ⟨R, hR⟩ : ∃ Z, x1 * y2 - y1 * x2 = Z := ⟨_, rfl⟩
  rw [hR] at HD ⊢
  have HM1 : Hid (∀ (X : World) (u v : Value), RS i X u x1 → RS j X v y2 → _) := fun X u v hu hv => HM.out X u v _ _ hu hv
  have HM2 : Hid (∀ (X : World) (u v : Value), RS i X u y1 → RS j X v x2 → _) := fun X u v hu hv => HM.out X u v _ _ hu hv
  obtain ⟨M1, hM1⟩ : ∃ Z, x1 * y2 = Z := ⟨_, rfl⟩
  obtain ⟨M2, hM2⟩ : ∃ Z, y1 * x2 = Z := ⟨_, rfl⟩
  rw [hM1] at HM1 HD
  rw [hM2] at HM2 HD
  clear hR hl hx1 hx2 hy1 hy2 s1 s2 hM1 hM2 HM
  obtain ⟨sa1, pa1, ka1, ca1, qa1, ja1, da1, sa2, pa2, ka2, ca2, qa2, ja2, da2, rfl, ha1, ha2⟩ := ha.parts
  have HPa := Lib.hid ha
  have HPa1 := Lib.hid ha1
  have HPa2 := Lib.hid ha2
  clear ha ha1 ha2
  obtain ⟨sb1, pb1, kb1, cb1, qb1, jb1, db1, sb2, pb2, kb2, cb2, qb2, jb2, db2, rfl, hb1, hb2⟩ := hb.parts
  have HPb := Lib.hid hb
  have HPb1 := Lib.hid hb1
  have HPb2 := Lib.hid hb2
  clear hb hb1 hb2
  go_enter Tryz.func32, Tryz.ntmps32
  go_upto_region 1 with fail
  obtain ⟨hXa, hXb, hXR, hbw⟩ := boxes3 w (.cells #[.bool sa1, .slice pa1 ka1 ca1, .slice qa1 ja1 da1, .bool sa2, .slice pa2 ka2 ca2, .slice qa2 ja2 da2] 28) (.cells #[.bool sb1, .slice pb1 kb1 cb1, .slice qb1 jb1 db1, .bool sb2, .slice pb2 kb2 cb2, .slice qb2 jb2 db2] 28) (.cells #[.bool false, .slice none 0 0, .slice none 0 0] 26)
  obtain ⟨W, hW⟩ : ∃ W, ((w.alloc (.cells #[.bool sa1, .slice pa1 ka1 ca1, .slice qa1 ja1 da1, .bool sa2, .slice pa2 ka2 ca2, .slice qa2 ja2 da2] 28)).alloc (.cells #[.bool sb1, .slice pb1 kb1 cb1, .slice qb1 jb1 db1, .bool sb2, .slice pb2 kb2 cb2, .slice qb2 jb2 db2] 28)).alloc (.cells #[.bool false, .slice none 0 0, .slice none 0 0] 26) = W := ⟨_, rfl⟩
  rw [hW] at hXa hXb hXR hbw ⊢
  obtain ⟨Xa, eXa⟩ : ∃ X, w.heap.size = X := ⟨_, rfl⟩
  obtain ⟨Xb, eXb⟩ : ∃ X, Xa + 1 = X := ⟨_, rfl⟩
  obtain ⟨XR, eXR⟩ : ∃ X, Xb + 1 = X := ⟨_, rfl⟩
  rw [eXa, eXb, eXR]
  rw [eXa] at hXa hXb hXR
  rw [eXb] at hXb hXR
  rw [eXR] at hXR
  have HXa := Lib.hid hXa
  have HXb := Lib.hid hXb
  have HXR := Lib.hid hXR
  have HBW := Lib.hid hbw
  have HGEXa : Hid (w.heap.size ≤ Xa) := by unfold Hid; omega
  have HGEXb : Hid (w.heap.size ≤ Xb) := by unfold Hid; omega
  have HGEXR : Hid (w.heap.size ≤ XR) := by unfold Hid; omega
  have HLT : Hid (Xa < Xb ∧ Xb < XR) := by unfold Hid; omega
  clear hW hbw hXa hXb hXR eXa eXb eXR
  refine region_flow 11 [[], [0], [], [2], [1, 3], [], [5], [], [7], [6, 8], [4, 9]] [.is (.pointer (some ⟨Xa, 0, none⟩)), .is (.agg #[.bool sa1, .slice pa1 ka1 ca1, .slice qa1 ja1 da1]), .is (.pointer (some ⟨Xb, 3, none⟩)), .is (.agg #[.bool sb2, .slice pb2 kb2 cb2, .slice qb2 jb2 db2]), .has (fun v w => RC w v M1), .is (.pointer (some ⟨Xa, 3, none⟩)), .is (.agg #[.bool sa2, .slice pa2 ka2 ca2, .slice qa2 ja2 da2]), .is (.pointer (some ⟨Xb, 0, none⟩)), .is (.agg #[.bool sb1, .slice pb1 kb1 cb1, .slice qb1 jb1 db1]), .has (fun v w => RC w v M2), .has (fun v w => RC w v R)] (by kernel_rfl) (by kernel_rfl) rfl (by simp only [Steady]; exact ⟨fun _ _ _ h hb => h.bel hb, fun _ _ _ h hb => h.bel hb, fun _ _ _ h hb => h.bel hb, trivial⟩) ?_
  simp only [List.take_succ_cons, List.take_zero, List.drop_succ_cons, List.drop_zero]
  refine fV (by rfl) (by intro w1 hw1 hk1; go_simp) ?_
  simp only [Act.put, sA, sB, sC]
  refine fV (by rfl) (by intro w1 hw1 hk1; obtain ⟨c0, c1, c2, -, -, -⟩ := boxc6 (hw1.heap HXa.out); go_simp) ?_
  simp only [Act.put, sA, sB, sC]
  refine fV (by rfl) (by intro w1 hw1 hk1; go_simp) ?_
  simp only [Act.put, sA, sB, sC]
  refine fV (by rfl) (by intro w1 hw1 hk1; obtain ⟨-, -, -, c3, c4, c5⟩ := boxc6 (hw1.heap HXb.out); go_simp) ?_
  simp only [Act.put, sA, sB, sC]
  refine fH (by rfl) (by intro w1 hw1 hk1; exact HM1.out _ _ _ (HPa1.out.bel (HBW.out.trans hw1)) (HPb2.out.bel (HBW.out.trans hw1))) (by intro; go_simp) (fun v4 => ?_)
  simp only [Act.put, sA, sB, sC]
  refine fV (by rfl) (by intro w1 hw1 hk1; go_simp) ?_
  simp only [Act.put, sA, sB, sC]
  refine fV (by rfl) (by intro w1 hw1 hk1; obtain ⟨-, -, -, c3, c4, c5⟩ := boxc6 (hw1.heap HXa.out); go_simp) ?_
  simp only [Act.put, sA, sB, sC]
  refine fV (by rfl) (by intro w1 hw1 hk1; go_simp) ?_
  simp only [Act.put, sA, sB, sC]
  refine fV (by rfl) (by intro w1 hw1 hk1; obtain ⟨c0, c1, c2, -, -, -⟩ := boxc6 (hw1.heap HXb.out); go_simp) ?_
  simp only [Act.put, sA, sB, sC]
  refine fH (by rfl) (by intro w1 hw1 hk1; exact HM2.out _ _ _ (HPa2.out.bel (HBW.out.trans hw1)) (HPb1.out.bel (HBW.out.trans hw1))) (by intro; go_simp) (fun v9 => ?_)
  simp only [Act.put, sA, sB, sC]
  refine fH (by rfl) (by intro w1 hw1 hk1; obtain ⟨g9, g4, -⟩ := hk1; exact HD.out _ _ _ g4 g9) (by intro; go_simp) (fun v10 => ?_)
  simp only [Act.put, sA, sB, sC]
  intro w1 hw1 hk1
  obtain ⟨g10, g9, g4, -⟩ := hk1
  obtain ⟨pr1, kr1, cr1, qr1, jr1, dr1, rfl, -, -⟩ := g10.slice
  have HV := Lib.hid g10
  have HB3 := Lib.hid hw1
  have hhXR := (HB3.out).heap HXR.out
  have HHXR := Lib.hid hhXR
  have dXR0 : w1.cell? ⟨XR, 0, none⟩ = some (.bool false) := (heap_cell hhXR 0).trans rfl
  have fXR0 : w1.frozen? ⟨XR, 0, none⟩ = false := heap_frozen hhXR 0
  have dXR1 : w1.cell? ⟨XR, 1, none⟩ = some (.slice none 0 0) := (heap_cell hhXR 1).trans rfl
  have fXR1 : w1.frozen? ⟨XR, 1, none⟩ = false := heap_frozen hhXR 1
  have dXR2 : w1.cell? ⟨XR, 2, none⟩ = some (.slice none 0 0) := (heap_cell hhXR 2).trans rfl
  have fXR2 : w1.frozen? ⟨XR, 2, none⟩ = false := heap_frozen hhXR 2
  clear hhXR
  clear hw1 g10 g9 g4 HM1 HM2 HD
  go_wp2
  obtain ⟨kb, kp, kh⟩ := finAll (vs := [.bool (decide (R.num < 0)), .slice pr1 kr1 cr1, .slice qr1 jr1 dr1]) (HBW.out.trans HB3.out) HHXR.out rfl HGEXR.out (Φ := fun W2 => RC W2 (.agg #[.bool (decide (R.num < 0)), .slice pr1 kr1 cr1, .slice qr1 jr1 dr1]) R) (fun W2 ho => HV.out.only ho HHXR.out (noInt_rat _ _ _ _ _ _ _))
  have kk0 : (setAll w1 XR 0 [.bool (decide (R.num < 0)), .slice pr1 kr1 cr1, .slice qr1 jr1 dr1]).cell? ⟨XR, 0, none⟩ = some (.bool (decide (R.num < 0))) := (heap_cell kh 0).trans rfl
  have kk1 : (setAll w1 XR 0 [.bool (decide (R.num < 0)), .slice pr1 kr1 cr1, .slice qr1 jr1 dr1]).cell? ⟨XR, 1, none⟩ = some (.slice pr1 kr1 cr1) := (heap_cell kh 1).trans rfl
  have kk2 : (setAll w1 XR 0 [.bool (decide (R.num < 0)), .slice pr1 kr1 cr1, .slice qr1 jr1 dr1]).cell? ⟨XR, 2, none⟩ = some (.slice qr1 jr1 dr1) := (heap_cell kh 2).trans rfl
  simp only [setAll] at kb kp kk0 kk1 kk2
  exact bodyPost_ret (v := .agg #[.bool (decide (R.num < 0)), .slice pr1 kr1 cr1, .slice qr1 jr1 dr1]) (by simp [results, Tryz.results32, go_sem, kk0, kk1, kk2]) rfl ⟨_, rfl, kb, kp⟩
end Go.Proofs.YtafmfnpjhhaikaaGreatDoor
