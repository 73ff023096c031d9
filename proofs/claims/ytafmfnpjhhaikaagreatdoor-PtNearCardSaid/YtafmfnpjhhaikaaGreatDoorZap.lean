/-
  pt: Scale, Mix, Far, Orient, Same (printed by gen_ptb.py).
-/
import Derived.Test.YtafmfnpjhhaikaaGreatDoorZao
import Derived.Test.YtafmfnpjhhaikaaGreatDoorZan
namespace Go.Proofs.YtafmfnpjhhaikaaGreatDoor
open Go.RowKit Go.Shelf

set_option maxHeartbeats 4000000 in
set_option maxRecDepth 100000 in
theorem mk_scale1 {w : World} {a b k : Value} {x z : Rat} {i j X : Nat} {cs : Array Value} (ha : RS i w a x) (hk : RS j w k z) (hb : ∃ s p n c q m d, b = .agg #[.bool s, .slice p n c, .slice q m d]) (hl : i + j < LimK) (hX : w.heap[X]? = some (.cells cs 26 (0, 0))) (he : k = .agg cs) :
    Calls Tryz.prog 83 #[a, b, .pointer (some ⟨X, 0, none⟩)] w (Makes w fun v w' => RC w' v (x * z)) := by
  have HD := Lib.hid (fun X (hX : Bel w X) => mk_rmul (ha.bel hX) (hk.bel hX) hl)
  obtain ⟨R, hR⟩ : ∃ Z, x * z = Z := ⟨_, rfl⟩
  rw [hR] at HD ⊢
  obtain ⟨sa1, pa1, ka1, ca1, qa1, ja1, da1, rfl⟩ := ha.parts
  obtain ⟨sk1, pk1, kk1, ck1, qk1, jk1, dk1, rfl⟩ := hk.parts
  obtain ⟨sb1, pb1, kb1, cb1, qb1, jb1, db1, rfl⟩ := hb
  have hcs : #[.bool sk1, .slice pk1 kk1 ck1, .slice qk1 jk1 dk1] = cs := by simpa using he
  subst hcs
  have HXk0 := Lib.hid hX
  clear ha hk hR hl hX he
  go_enter Tryz.func83, Tryz.ntmps83
  go_upto_region 1 with fail
  obtain ⟨hXa, hXb, hXR, hbw⟩ := boxes3 w (.cells #[.bool sa1, .slice pa1 ka1 ca1, .slice qa1 ja1 da1] 26) (.cells #[.bool sb1, .slice pb1 kb1 cb1, .slice qb1 jb1 db1] 26) (.cells #[.bool false, .slice none 0 0, .slice none 0 0] 26)
  obtain ⟨W, hW⟩ : ∃ W, ((w.alloc (.cells #[.bool sa1, .slice pa1 ka1 ca1, .slice qa1 ja1 da1] 26)).alloc (.cells #[.bool sb1, .slice pb1 kb1 cb1, .slice qb1 jb1 db1] 26)).alloc (.cells #[.bool false, .slice none 0 0, .slice none 0 0] 26) = W := ⟨_, rfl⟩
  rw [hW] at hXa hXb hXR hbw ⊢
  obtain ⟨Xa, eXa⟩ : ∃ X, w.heap.size = X := ⟨_, rfl⟩
  obtain ⟨Xb, eXb⟩ : ∃ X, Xa + 1 = X := ⟨_, rfl⟩
  obtain ⟨XR, eXR⟩ : ∃ X, Xb + 1 = X := ⟨_, rfl⟩
  rw [eXa, eXb, eXR]
  rw [eXa] at hXa hXb hXR
  rw [eXb] at hXb hXR
  rw [eXR] at hXR
  have HXa := Lib.hid hXa
  have HXb := Lib.hid hXb
  have HXR := Lib.hid hXR
  have HBW := Lib.hid hbw
  have HGEXa : Hid (w.heap.size ≤ Xa) := by unfold Hid; omega
  have HGEXb : Hid (w.heap.size ≤ Xb) := by unfold Hid; omega
  have HGEXR : Hid (w.heap.size ≤ XR) := by unfold Hid; omega
  have HLT : Hid (Xa < Xb ∧ Xb < XR) := by unfold Hid; omega
  clear hW hbw hXa hXb hXR eXa eXb eXR
  have HXk := Lib.hid (HBW.out.heap HXk0.out)
  refine line_region 3 [[], [], [0, 1]] [.is (.agg #[.bool sa1, .slice pa1 ka1 ca1, .slice qa1 ja1 da1]), .is (.agg #[.bool sk1, .slice pk1 kk1 ck1, .slice qk1 jk1 dk1]), .has (fun v w => RC w v R)] rfl rfl (by decide) (by simp only [Steady]; exact ⟨fun _ _ _ h hb => h.bel hb, trivial⟩) ?_
  simp only [List.take_succ_cons, List.take_zero, List.drop_succ_cons, List.drop_zero]
  refine fV (by rfl) (by intro w1 hw1 hk1; obtain ⟨c0, c1, c2⟩ := boxc3 (hw1.heap HXa.out); go_simp) ?_
  simp only [Act.put, sA, sB, sC]
  refine fV (by rfl) (by intro w1 hw1 hk1; obtain ⟨c0, c1, c2⟩ := boxc3 (hw1.heap HXk.out); go_simp) ?_
  simp only [Act.put, sA, sB, sC]
  refine fH (by rfl) (by intro w1 hw1 hk1; exact HD.out _ (HBW.out.trans hw1)) (by intro; go_simp) (fun v2 => ?_)
  simp only [Act.put, sA, sB, sC]
  intro w1 hw1 hk1
  obtain ⟨g2, -⟩ := hk1
  obtain ⟨pr1, kr1, cr1, qr1, jr1, dr1, rfl, -, -⟩ := g2.slice
  have HV := Lib.hid g2
  have HB3 := Lib.hid hw1
  have hhXR := (HB3.out).heap HXR.out
  have HHXR := Lib.hid hhXR
  have dXR0 : w1.cell? ⟨XR, 0, none⟩ = some (.bool false) := (heap_cell hhXR 0).trans rfl
  have fXR0 : w1.frozen? ⟨XR, 0, none⟩ = false := heap_frozen hhXR 0
  have dXR1 : w1.cell? ⟨XR, 1, none⟩ = some (.slice none 0 0) := (heap_cell hhXR 1).trans rfl
  have fXR1 : w1.frozen? ⟨XR, 1, none⟩ = false := heap_frozen hhXR 1
  have dXR2 : w1.cell? ⟨XR, 2, none⟩ = some (.slice none 0 0) := (heap_cell hhXR 2).trans rfl
  have fXR2 : w1.frozen? ⟨XR, 2, none⟩ = false := heap_frozen hhXR 2
  clear hhXR
  clear hw1 g2 HD
  go_wp2
  obtain ⟨kb, kp, kh⟩ := finAll (vs := [.bool (decide (R.num < 0)), .slice pr1 kr1 cr1, .slice qr1 jr1 dr1]) (HBW.out.trans HB3.out) HHXR.out rfl HGEXR.out (Φ := fun W2 => RC W2 (.agg #[.bool (decide (R.num < 0)), .slice pr1 kr1 cr1, .slice qr1 jr1 dr1]) R) (fun W2 ho => HV.out.only ho HHXR.out (noInt_rat _ _ _ _ _ _ _))
  have kk0 : (setAll w1 XR 0 [.bool (decide (R.num < 0)), .slice pr1 kr1 cr1, .slice qr1 jr1 dr1]).cell? ⟨XR, 0, none⟩ = some (.bool (decide (R.num < 0))) := (heap_cell kh 0).trans rfl
  have kk1 : (setAll w1 XR 0 [.bool (decide (R.num < 0)), .slice pr1 kr1 cr1, .slice qr1 jr1 dr1]).cell? ⟨XR, 1, none⟩ = some (.slice pr1 kr1 cr1) := (heap_cell kh 1).trans rfl
  have kk2 : (setAll w1 XR 0 [.bool (decide (R.num < 0)), .slice pr1 kr1 cr1, .slice qr1 jr1 dr1]).cell? ⟨XR, 2, none⟩ = some (.slice qr1 jr1 dr1) := (heap_cell kh 2).trans rfl
  simp only [setAll] at kb kp kk0 kk1 kk2
  exact bodyPost_ret (v := .agg #[.bool (decide (R.num < 0)), .slice pr1 kr1 cr1, .slice qr1 jr1 dr1]) (by simp [results, Tryz.results83, go_sem, kk0, kk1, kk2]) rfl ⟨_, rfl, kb, kp⟩
set_option maxHeartbeats 4000000 in
set_option maxRecDepth 100000 in
theorem mk_scale {w : World} {a k : Value} {x y z : Rat} {i j : Nat} (ha : PS i w a x y) (hk : RS j w k z) (hl : i + j < LimK) : Calls Tryz.prog 25 #[a, k] w (Makes w fun v w' => PC w' v (x * z) (y * z)) := by
  have HD : Hid (∀ (X : World) (B : Nat) (cs : Array Value) (_ : Bel w X) (_ : X.heap[B]? = some (.cells cs 26 (0, 0))) (_ : k = .agg cs), _) := fun X B cs hX hB hc => mk_both1 (g := 83) (c := .pointer (some ⟨B, 0, none⟩)) (Lib.hid (fun _ _ => by go_simp)) (ha.bel hX) (ha.bel hX)
    (Lib.hid (fun Y u v hY hu hv => mk_scale1 hu (hk.bel (hX.trans hY)) hv.parts hl (hY.heap hB) hc)) (Lib.hid (fun Y u v hY hu hv => mk_scale1 hu (hk.bel (hX.trans hY)) hv.parts hl (hY.heap hB) hc))
  obtain ⟨R1, hR1⟩ : ∃ Z, x * z = Z := ⟨_, rfl⟩
  obtain ⟨R2, hR2⟩ : ∃ Z, y * z = Z := ⟨_, rfl⟩
  rw [hR1, hR2] at HD ⊢
  clear hR1 hR2 hl
  obtain ⟨sa1, pa1, ka1, ca1, qa1, ja1, da1, sa2, pa2, ka2, ca2, qa2, ja2, da2, rfl, ha1, ha2⟩ := ha.parts
  have HPa := Lib.hid ha
  have HPa1 := Lib.hid ha1
  have HPa2 := Lib.hid ha2
  clear ha ha1 ha2
  obtain ⟨sk1, pk1, kk1, ck1, qk1, jk1, dk1, rfl⟩ := hk.parts
  have HPk := Lib.hid hk
  clear hk
  go_enter Tryz.func25, Tryz.ntmps25
  go_upto_region 1 with fail
  obtain ⟨hXa, hXk, hXR, hbw⟩ := boxes3 w (.cells #[.bool sa1, .slice pa1 ka1 ca1, .slice qa1 ja1 da1, .bool sa2, .slice pa2 ka2 ca2, .slice qa2 ja2 da2] 28) (.cells #[.bool sk1, .slice pk1 kk1 ck1, .slice qk1 jk1 dk1] 26) (.cells #[.bool false, .slice none 0 0, .slice none 0 0, .bool false, .slice none 0 0, .slice none 0 0] 28)
  obtain ⟨W, hW⟩ : ∃ W, ((w.alloc (.cells #[.bool sa1, .slice pa1 ka1 ca1, .slice qa1 ja1 da1, .bool sa2, .slice pa2 ka2 ca2, .slice qa2 ja2 da2] 28)).alloc (.cells #[.bool sk1, .slice pk1 kk1 ck1, .slice qk1 jk1 dk1] 26)).alloc (.cells #[.bool false, .slice none 0 0, .slice none 0 0, .bool false, .slice none 0 0, .slice none 0 0] 28) = W := ⟨_, rfl⟩
  rw [hW] at hXa hXk hXR hbw ⊢
  obtain ⟨Xa, eXa⟩ : ∃ X, w.heap.size = X := ⟨_, rfl⟩
  obtain ⟨Xk, eXk⟩ : ∃ X, Xa + 1 = X := ⟨_, rfl⟩
  obtain ⟨XR, eXR⟩ : ∃ X, Xk + 1 = X := ⟨_, rfl⟩
  rw [eXa, eXk, eXR]
  rw [eXa] at hXa hXk hXR
  rw [eXk] at hXk hXR
  rw [eXR] at hXR
  have HXa := Lib.hid hXa
  have HXk := Lib.hid hXk
  have HXR := Lib.hid hXR
  have HBW := Lib.hid hbw
  have HGEXa : Hid (w.heap.size ≤ Xa) := by unfold Hid; omega
  have HGEXk : Hid (w.heap.size ≤ Xk) := by unfold Hid; omega
  have HGEXR : Hid (w.heap.size ≤ XR) := by unfold Hid; omega
  have HLT : Hid (Xa < Xk ∧ Xk < XR) := by unfold Hid; omega
  clear hW hbw hXa hXk hXR eXa eXk eXR
  have HD' := Lib.hid (fun X (hX : Bel W X) => HD.out X Xk _ (HBW.out.trans hX) (hX.heap HXk.out) rfl)
  clear HD
  refine line_region 4 [[], [], [], [0, 1, 2]] [.is (.agg #[.bool sa1, .slice pa1 ka1 ca1, .slice qa1 ja1 da1, .bool sa2, .slice pa2 ka2 ca2, .slice qa2 ja2 da2]), .is (.agg #[.bool sa1, .slice pa1 ka1 ca1, .slice qa1 ja1 da1, .bool sa2, .slice pa2 ka2 ca2, .slice qa2 ja2 da2]), .is (.func (.func 83) #[] #[.pointer (some ⟨Xk, 0, none⟩)]), .has (fun v w => PC w v R1 R2)] rfl rfl (by decide) (by simp only [Steady]; exact ⟨fun _ _ _ h hb => h.bel hb, trivial⟩) ?_
  simp only [List.take_succ_cons, List.take_zero, List.drop_succ_cons, List.drop_zero]
  refine fV (by rfl) (by intro w1 hw1 hk1; obtain ⟨c0, c1, c2, c3, c4, c5⟩ := boxc6 (hw1.heap HXa.out); go_simp) ?_
  simp only [Act.put, sA, sB, sC]
  refine fV (by rfl) (by intro w1 hw1 hk1; obtain ⟨c0, c1, c2, c3, c4, c5⟩ := boxc6 (hw1.heap HXa.out); go_simp) ?_
  simp only [Act.put, sA, sB, sC]
  refine fV (by rfl) (by intro w1 hw1 hk1; go_simp) ?_
  simp only [Act.put, sA, sB, sC]
  refine fH (by rfl) (by intro w1 hw1 hk1; exact HD'.out _ hw1) (by intro; go_simp) (fun v3 => ?_)
  simp only [Act.put, sA, sB, sC]
  intro w1 hw1 hk1
  obtain ⟨g3, -⟩ := hk1
  obtain ⟨pr1, kr1, cr1, qr1, jr1, dr1, pr2, kr2, cr2, qr2, jr2, dr2, rfl, -, -⟩ := g3.slice
  have HV := Lib.hid g3
  have HB3 := Lib.hid hw1
  have hhXR := (HB3.out).heap HXR.out
  have HHXR := Lib.hid hhXR
  have dXR0 : w1.cell? ⟨XR, 0, none⟩ = some (.bool false) := (heap_cell hhXR 0).trans rfl
  have fXR0 : w1.frozen? ⟨XR, 0, none⟩ = false := heap_frozen hhXR 0
  have dXR1 : w1.cell? ⟨XR, 1, none⟩ = some (.slice none 0 0) := (heap_cell hhXR 1).trans rfl
  have fXR1 : w1.frozen? ⟨XR, 1, none⟩ = false := heap_frozen hhXR 1
  have dXR2 : w1.cell? ⟨XR, 2, none⟩ = some (.slice none 0 0) := (heap_cell hhXR 2).trans rfl
  have fXR2 : w1.frozen? ⟨XR, 2, none⟩ = false := heap_frozen hhXR 2
  have dXR3 : w1.cell? ⟨XR, 3, none⟩ = some (.bool false) := (heap_cell hhXR 3).trans rfl
  have fXR3 : w1.frozen? ⟨XR, 3, none⟩ = false := heap_frozen hhXR 3
  have dXR4 : w1.cell? ⟨XR, 4, none⟩ = some (.slice none 0 0) := (heap_cell hhXR 4).trans rfl
  have fXR4 : w1.frozen? ⟨XR, 4, none⟩ = false := heap_frozen hhXR 4
  have dXR5 : w1.cell? ⟨XR, 5, none⟩ = some (.slice none 0 0) := (heap_cell hhXR 5).trans rfl
  have fXR5 : w1.frozen? ⟨XR, 5, none⟩ = false := heap_frozen hhXR 5
  clear hhXR
  clear hw1 g3 HD'
  go_wp2
  obtain ⟨kb, kp, kh⟩ := finAll (vs := [.bool (decide (R1.num < 0)), .slice pr1 kr1 cr1, .slice qr1 jr1 dr1, .bool (decide (R2.num < 0)), .slice pr2 kr2 cr2, .slice qr2 jr2 dr2]) (HBW.out.trans HB3.out) HHXR.out rfl HGEXR.out (Φ := fun W2 => PC W2 (.agg #[.bool (decide (R1.num < 0)), .slice pr1 kr1 cr1, .slice qr1 jr1 dr1, .bool (decide (R2.num < 0)), .slice pr2 kr2 cr2, .slice qr2 jr2 dr2]) R1 R2) (fun W2 ho => HV.out.only ho HHXR.out (noInt_pt _ _ _ _ _ _ _ _ _ _ _ _ _ _))
  have kk0 : (setAll w1 XR 0 [.bool (decide (R1.num < 0)), .slice pr1 kr1 cr1, .slice qr1 jr1 dr1, .bool (decide (R2.num < 0)), .slice pr2 kr2 cr2, .slice qr2 jr2 dr2]).cell? ⟨XR, 0, none⟩ = some (.bool (decide (R1.num < 0))) := (heap_cell kh 0).trans rfl
  have kk1 : (setAll w1 XR 0 [.bool (decide (R1.num < 0)), .slice pr1 kr1 cr1, .slice qr1 jr1 dr1, .bool (decide (R2.num < 0)), .slice pr2 kr2 cr2, .slice qr2 jr2 dr2]).cell? ⟨XR, 1, none⟩ = some (.slice pr1 kr1 cr1) := (heap_cell kh 1).trans rfl
  have kk2 : (setAll w1 XR 0 [.bool (decide (R1.num < 0)), .slice pr1 kr1 cr1, .slice qr1 jr1 dr1, .bool (decide (R2.num < 0)), .slice pr2 kr2 cr2, .slice qr2 jr2 dr2]).cell? ⟨XR, 2, none⟩ = some (.slice qr1 jr1 dr1) := (heap_cell kh 2).trans rfl
  have kk3 : (setAll w1 XR 0 [.bool (decide (R1.num < 0)), .slice pr1 kr1 cr1, .slice qr1 jr1 dr1, .bool (decide (R2.num < 0)), .slice pr2 kr2 cr2, .slice qr2 jr2 dr2]).cell? ⟨XR, 3, none⟩ = some (.bool (decide (R2.num < 0))) := (heap_cell kh 3).trans rfl
  have kk4 : (setAll w1 XR 0 [.bool (decide (R1.num < 0)), .slice pr1 kr1 cr1, .slice qr1 jr1 dr1, .bool (decide (R2.num < 0)), .slice pr2 kr2 cr2, .slice qr2 jr2 dr2]).cell? ⟨XR, 4, none⟩ = some (.slice pr2 kr2 cr2) := (heap_cell kh 4).trans rfl
  have kk5 : (setAll w1 XR 0 [.bool (decide (R1.num < 0)), .slice pr1 kr1 cr1, .slice qr1 jr1 dr1, .bool (decide (R2.num < 0)), .slice pr2 kr2 cr2, .slice qr2 jr2 dr2]).cell? ⟨XR, 5, none⟩ = some (.slice qr2 jr2 dr2) := (heap_cell kh 5).trans rfl
  simp only [setAll] at kb kp kk0 kk1 kk2 kk3 kk4 kk5
  exact bodyPost_ret (v := .agg #[.bool (decide (R1.num < 0)), .slice pr1 kr1 cr1, .slice qr1 jr1 dr1, .bool (decide (R2.num < 0)), .slice pr2 kr2 cr2, .slice qr2 jr2 dr2]) (by simp [results, Tryz.results25, go_sem, kk0, kk1, kk2, kk3, kk4, kk5]) rfl ⟨_, rfl, kb, kp⟩
set_option maxHeartbeats 4000000 in
set_option maxRecDepth 100000 in
theorem mk_mix {w : World} {a b k : Value} {x1 y1 x2 y2 z : Rat} {i j m : Nat} (ha : PS i w a x1 y1) (hb : PS j w b x2 y2) (hk : RS m w k z) (hl : i + (j + i + 1 + m) < LimK) : Calls Tryz.prog 27 #[a, b, k] w (Makes w fun v w' => PC w' v (x1 + (x2 - x1) * z) (y1 + (y2 - y1) * z)) := by
  obtain ⟨_, _, _, _, _, _, -, hx1, hy1⟩ := id ha
  obtain ⟨_, _, _, _, _, _, -, hx2, hy2⟩ := id hb
  have s1 := hx2.2.sub hx1.2
  have s2 := hy2.2.sub hy1.2
  have t1 := s1.mul hk.2
  have t2 := s2.mul hk.2
  have HS := Lib.hid (fun X (hX : Bel w X) => mk_psub (hb.bel hX) (ha.bel hX) (by omega))
  have HM : Hid (∀ X u (_ : Bel w X), PC X u (x2 - x1) (y2 - y1) → _) := fun X u hX hu => mk_scale (hu.ps s1 s2 (by omega)) (hk.bel hX) (by omega)
  have HD : Hid (∀ X u (_ : Bel w X), PC X u ((x2 - x1) * z) ((y2 - y1) * z) → _) := fun X u hX hu => mk_padd (ha.bel hX) (hu.ps t1 t2 (by omega)) hl
  clear s1 s2 t1 t2 hx1 hy1 hx2 hy2 hl
  obtain ⟨R1, hR1⟩ : ∃ Z, x1 + (x2 - x1) * z = Z := ⟨_, rfl⟩
  obtain ⟨R2, hR2⟩ : ∃ Z, y1 + (y2 - y1) * z = Z := ⟨_, rfl⟩
  rw [hR1, hR2] at HD ⊢
  obtain ⟨S1, hS1⟩ : ∃ Z, (x2 - x1) * z = Z := ⟨_, rfl⟩
  obtain ⟨S2, hS2⟩ : ∃ Z, (y2 - y1) * z = Z := ⟨_, rfl⟩
  rw [hS1, hS2] at HM HD
  obtain ⟨D1, hD1⟩ : ∃ Z, x2 - x1 = Z := ⟨_, rfl⟩
  obtain ⟨D2, hD2⟩ : ∃ Z, y2 - y1 = Z := ⟨_, rfl⟩
  rw [hD1, hD2] at HM HS
  clear hR1 hR2 hS1 hS2 hD1 hD2
  obtain ⟨sa1, pa1, ka1, ca1, qa1, ja1, da1, sa2, pa2, ka2, ca2, qa2, ja2, da2, rfl, ha1, ha2⟩ := ha.parts
  have HPa := Lib.hid ha
  have HPa1 := Lib.hid ha1
  have HPa2 := Lib.hid ha2
  clear ha ha1 ha2
  obtain ⟨sb1, pb1, kb1, cb1, qb1, jb1, db1, sb2, pb2, kb2, cb2, qb2, jb2, db2, rfl, hb1, hb2⟩ := hb.parts
  have HPb := Lib.hid hb
  have HPb1 := Lib.hid hb1
  have HPb2 := Lib.hid hb2
  clear hb hb1 hb2
  obtain ⟨sk1, pk1, kk1, ck1, qk1, jk1, dk1, rfl⟩ := hk.parts
  have HPk := Lib.hid hk
  clear hk
  go_enter Tryz.func27, Tryz.ntmps27
  go_upto_region 1 with fail
  obtain ⟨hXa, hXb, hXk, hXR, hbw⟩ := boxes4 w (.cells #[.bool sa1, .slice pa1 ka1 ca1, .slice qa1 ja1 da1, .bool sa2, .slice pa2 ka2 ca2, .slice qa2 ja2 da2] 28) (.cells #[.bool sb1, .slice pb1 kb1 cb1, .slice qb1 jb1 db1, .bool sb2, .slice pb2 kb2 cb2, .slice qb2 jb2 db2] 28) (.cells #[.bool sk1, .slice pk1 kk1 ck1, .slice qk1 jk1 dk1] 26) (.cells #[.bool false, .slice none 0 0, .slice none 0 0, .bool false, .slice none 0 0, .slice none 0 0] 28)
  obtain ⟨W, hW⟩ : ∃ W, (((w.alloc (.cells #[.bool sa1, .slice pa1 ka1 ca1, .slice qa1 ja1 da1, .bool sa2, .slice pa2 ka2 ca2, .slice qa2 ja2 da2] 28)).alloc (.cells #[.bool sb1, .slice pb1 kb1 cb1, .slice qb1 jb1 db1, .bool sb2, .slice pb2 kb2 cb2, .slice qb2 jb2 db2] 28)).alloc (.cells #[.bool sk1, .slice pk1 kk1 ck1, .slice qk1 jk1 dk1] 26)).alloc (.cells #[.bool false, .slice none 0 0, .slice none 0 0, .bool false, .slice none 0 0, .slice none 0 0] 28) = W := ⟨_, rfl⟩
  rw [hW] at hXa hXb hXk hXR hbw ⊢
  obtain ⟨Xa, eXa⟩ : ∃ X, w.heap.size = X := ⟨_, rfl⟩
  obtain ⟨Xb, eXb⟩ : ∃ X, Xa + 1 = X := ⟨_, rfl⟩
  obtain ⟨Xk, eXk⟩ : ∃ X, Xb + 1 = X := ⟨_, rfl⟩
  obtain ⟨XR, eXR⟩ : ∃ X, Xk + 1 = X := ⟨_, rfl⟩
  rw [eXa, eXb, eXk, eXR]
  rw [eXa] at hXa hXb hXk hXR
  rw [eXb] at hXb hXk hXR
  rw [eXk] at hXk hXR
  rw [eXR] at hXR
  have HXa := Lib.hid hXa
  have HXb := Lib.hid hXb
  have HXk := Lib.hid hXk
  have HXR := Lib.hid hXR
  have HBW := Lib.hid hbw
  have HGEXa : Hid (w.heap.size ≤ Xa) := by unfold Hid; omega
  have HGEXb : Hid (w.heap.size ≤ Xb) := by unfold Hid; omega
  have HGEXk : Hid (w.heap.size ≤ Xk) := by unfold Hid; omega
  have HGEXR : Hid (w.heap.size ≤ XR) := by unfold Hid; omega
  have HLT : Hid (Xa < Xb ∧ Xb < Xk ∧ Xk < XR) := by unfold Hid; omega
  clear hW hbw hXa hXb hXk hXR eXa eXb eXk eXR
  refine region_flow 7 [[], [], [], [1, 2], [], [3, 4], [0, 5]] [.is (.agg #[.bool sa1, .slice pa1 ka1 ca1, .slice qa1 ja1 da1, .bool sa2, .slice pa2 ka2 ca2, .slice qa2 ja2 da2]), .is (.agg #[.bool sb1, .slice pb1 kb1 cb1, .slice qb1 jb1 db1, .bool sb2, .slice pb2 kb2 cb2, .slice qb2 jb2 db2]), .is (.agg #[.bool sa1, .slice pa1 ka1 ca1, .slice qa1 ja1 da1, .bool sa2, .slice pa2 ka2 ca2, .slice qa2 ja2 da2]), .has (fun v w => PC w v D1 D2), .is (.agg #[.bool sk1, .slice pk1 kk1 ck1, .slice qk1 jk1 dk1]), .has (fun v w => PC w v S1 S2), .has (fun v w => PC w v R1 R2)] (by kernel_rfl) (by kernel_rfl) rfl (by simp only [Steady]; exact ⟨fun _ _ _ h hb => h.bel hb, fun _ _ _ h hb => h.bel hb, fun _ _ _ h hb => h.bel hb, trivial⟩) ?_
  simp only [List.take_succ_cons, List.take_zero, List.drop_succ_cons, List.drop_zero]
  refine fV (by rfl) (by intro w1 hw1 hk1; obtain ⟨c0, c1, c2, c3, c4, c5⟩ := boxc6 (hw1.heap HXa.out); go_simp) ?_
  simp only [Act.put, sA, sB, sC]
  refine fV (by rfl) (by intro w1 hw1 hk1; obtain ⟨c0, c1, c2, c3, c4, c5⟩ := boxc6 (hw1.heap HXb.out); go_simp) ?_
  simp only [Act.put, sA, sB, sC]
  refine fV (by rfl) (by intro w1 hw1 hk1; obtain ⟨c0, c1, c2, c3, c4, c5⟩ := boxc6 (hw1.heap HXa.out); go_simp) ?_
  simp only [Act.put, sA, sB, sC]
  refine fH (by rfl) (by intro w1 hw1 hk1; exact HS.out _ (HBW.out.trans hw1)) (by intro; go_simp) (fun v3 => ?_)
  simp only [Act.put, sA, sB, sC]
  refine fV (by rfl) (by intro w1 hw1 hk1; obtain ⟨c0, c1, c2⟩ := boxc3 (hw1.heap HXk.out); go_simp) ?_
  simp only [Act.put, sA, sB, sC]
  refine fH (by rfl) (by intro w1 hw1 hk1; obtain ⟨g3, -⟩ := hk1; exact HM.out _ _ (HBW.out.trans hw1) g3) (by intro; go_simp) (fun v5 => ?_)
  simp only [Act.put, sA, sB, sC]
  refine fH (by rfl) (by intro w1 hw1 hk1; obtain ⟨g5, -, -⟩ := hk1; exact HD.out _ _ (HBW.out.trans hw1) g5) (by intro; go_simp) (fun v6 => ?_)
  simp only [Act.put, sA, sB, sC]
  intro w1 hw1 hk1
  obtain ⟨g6, g5, g3, -⟩ := hk1
  obtain ⟨pr1, kr1, cr1, qr1, jr1, dr1, pr2, kr2, cr2, qr2, jr2, dr2, rfl, -, -⟩ := g6.slice
  have HV := Lib.hid g6
  have HB3 := Lib.hid hw1
  have hhXR := (HB3.out).heap HXR.out
  have HHXR := Lib.hid hhXR
  have dXR0 : w1.cell? ⟨XR, 0, none⟩ = some (.bool false) := (heap_cell hhXR 0).trans rfl
  have fXR0 : w1.frozen? ⟨XR, 0, none⟩ = false := heap_frozen hhXR 0
  have dXR1 : w1.cell? ⟨XR, 1, none⟩ = some (.slice none 0 0) := (heap_cell hhXR 1).trans rfl
  have fXR1 : w1.frozen? ⟨XR, 1, none⟩ = false := heap_frozen hhXR 1
  have dXR2 : w1.cell? ⟨XR, 2, none⟩ = some (.slice none 0 0) := (heap_cell hhXR 2).trans rfl
  have fXR2 : w1.frozen? ⟨XR, 2, none⟩ = false := heap_frozen hhXR 2
  have dXR3 : w1.cell? ⟨XR, 3, none⟩ = some (.bool false) := (heap_cell hhXR 3).trans rfl
  have fXR3 : w1.frozen? ⟨XR, 3, none⟩ = false := heap_frozen hhXR 3
  have dXR4 : w1.cell? ⟨XR, 4, none⟩ = some (.slice none 0 0) := (heap_cell hhXR 4).trans rfl
  have fXR4 : w1.frozen? ⟨XR, 4, none⟩ = false := heap_frozen hhXR 4
  have dXR5 : w1.cell? ⟨XR, 5, none⟩ = some (.slice none 0 0) := (heap_cell hhXR 5).trans rfl
  have fXR5 : w1.frozen? ⟨XR, 5, none⟩ = false := heap_frozen hhXR 5
  clear hhXR
  clear hw1 g6 g5 g3 HS HM HD
  go_wp2
  obtain ⟨kb, kp, kh⟩ := finAll (vs := [.bool (decide (R1.num < 0)), .slice pr1 kr1 cr1, .slice qr1 jr1 dr1, .bool (decide (R2.num < 0)), .slice pr2 kr2 cr2, .slice qr2 jr2 dr2]) (HBW.out.trans HB3.out) HHXR.out rfl HGEXR.out (Φ := fun W2 => PC W2 (.agg #[.bool (decide (R1.num < 0)), .slice pr1 kr1 cr1, .slice qr1 jr1 dr1, .bool (decide (R2.num < 0)), .slice pr2 kr2 cr2, .slice qr2 jr2 dr2]) R1 R2) (fun W2 ho => HV.out.only ho HHXR.out (noInt_pt _ _ _ _ _ _ _ _ _ _ _ _ _ _))
  have kk0 : (setAll w1 XR 0 [.bool (decide (R1.num < 0)), .slice pr1 kr1 cr1, .slice qr1 jr1 dr1, .bool (decide (R2.num < 0)), .slice pr2 kr2 cr2, .slice qr2 jr2 dr2]).cell? ⟨XR, 0, none⟩ = some (.bool (decide (R1.num < 0))) := (heap_cell kh 0).trans rfl
  have kk1 : (setAll w1 XR 0 [.bool (decide (R1.num < 0)), .slice pr1 kr1 cr1, .slice qr1 jr1 dr1, .bool (decide (R2.num < 0)), .slice pr2 kr2 cr2, .slice qr2 jr2 dr2]).cell? ⟨XR, 1, none⟩ = some (.slice pr1 kr1 cr1) := (heap_cell kh 1).trans rfl
  have kk2 : (setAll w1 XR 0 [.bool (decide (R1.num < 0)), .slice pr1 kr1 cr1, .slice qr1 jr1 dr1, .bool (decide (R2.num < 0)), .slice pr2 kr2 cr2, .slice qr2 jr2 dr2]).cell? ⟨XR, 2, none⟩ = some (.slice qr1 jr1 dr1) := (heap_cell kh 2).trans rfl
  have kk3 : (setAll w1 XR 0 [.bool (decide (R1.num < 0)), .slice pr1 kr1 cr1, .slice qr1 jr1 dr1, .bool (decide (R2.num < 0)), .slice pr2 kr2 cr2, .slice qr2 jr2 dr2]).cell? ⟨XR, 3, none⟩ = some (.bool (decide (R2.num < 0))) := (heap_cell kh 3).trans rfl
  have kk4 : (setAll w1 XR 0 [.bool (decide (R1.num < 0)), .slice pr1 kr1 cr1, .slice qr1 jr1 dr1, .bool (decide (R2.num < 0)), .slice pr2 kr2 cr2, .slice qr2 jr2 dr2]).cell? ⟨XR, 4, none⟩ = some (.slice pr2 kr2 cr2) := (heap_cell kh 4).trans rfl
  have kk5 : (setAll w1 XR 0 [.bool (decide (R1.num < 0)), .slice pr1 kr1 cr1, .slice qr1 jr1 dr1, .bool (decide (R2.num < 0)), .slice pr2 kr2 cr2, .slice qr2 jr2 dr2]).cell? ⟨XR, 5, none⟩ = some (.slice qr2 jr2 dr2) := (heap_cell kh 5).trans rfl
  simp only [setAll] at kb kp kk0 kk1 kk2 kk3 kk4 kk5
  exact bodyPost_ret (v := .agg #[.bool (decide (R1.num < 0)), .slice pr1 kr1 cr1, .slice qr1 jr1 dr1, .bool (decide (R2.num < 0)), .slice pr2 kr2 cr2, .slice qr2 jr2 dr2]) (by simp [results, Tryz.results27, go_sem, kk0, kk1, kk2, kk3, kk4, kk5]) rfl ⟨_, rfl, kb, kp⟩
set_option maxHeartbeats 4000000 in
set_option maxRecDepth 100000 in
theorem mk_orient {w : World} {a b c : Value} {x1 y1 x2 y2 x3 y3 : Rat} {i : Nat} (ha : PS i w a x1 y1) (hb : PS i w b x2 y2) (hc : PS i w c x3 y3) (hl : 8 * i + 6 < LimK) : Calls Tryz.prog 37 #[a, b, c] w (Makes w fun v _ => v = .int .i64 (cmpR ((x2 - x1) * (y3 - y1) - (y2 - y1) * (x3 - x1)) 0)) := by
  obtain ⟨_, _, _, _, _, _, -, hx1, hy1⟩ := id ha
  obtain ⟨_, _, _, _, _, _, -, hx2, hy2⟩ := id hb
  obtain ⟨_, _, _, _, _, _, -, hx3, hy3⟩ := id hc
  have s1 := hx2.2.sub hx1.2
  have s2 := hy2.2.sub hy1.2
  have s3 := hx3.2.sub hx1.2
  have s4 := hy3.2.sub hy1.2
  have t := (s1.mul s4).sub (s2.mul s3)
  have HS1 := Lib.hid (fun X (hX : Bel w X) => mk_psub (hb.bel hX) (ha.bel hX) (by omega))
  have HS2 := Lib.hid (fun X (hX : Bel w X) => mk_psub (hc.bel hX) (ha.bel hX) (by omega))
  have HC : Hid (∀ X u v, PC X u (x2 - x1) (y2 - y1) → PC X v (x3 - x1) (y3 - y1) → _) := fun X u v hu hv => mk_cross (hu.ps s1 s2 (by omega)) (hv.ps s3 s4 (by omega)) (by omega)
  have HD : Hid (∀ X u, RC X u ((x2 - x1) * (y3 - y1) - (y2 - y1) * (x3 - x1)) → _) := fun X u hu => mk_rsign (hu.ri t (by omega))
  clear s1 s2 s3 s4 t hx1 hy1 hx2 hy2 hx3 hy3 hl
  obtain ⟨R, hR⟩ : ∃ Z, (x2 - x1) * (y3 - y1) - (y2 - y1) * (x3 - x1) = Z := ⟨_, rfl⟩
  rw [hR] at HD HC ⊢
  obtain ⟨C, hC⟩ : ∃ Z, cmpR R 0 = Z := ⟨_, rfl⟩
  rw [hC] at HD ⊢
  obtain ⟨D1, hD1⟩ : ∃ Z, x2 - x1 = Z := ⟨_, rfl⟩
  obtain ⟨D2, hD2⟩ : ∃ Z, y2 - y1 = Z := ⟨_, rfl⟩
  obtain ⟨E1, hE1⟩ : ∃ Z, x3 - x1 = Z := ⟨_, rfl⟩
  obtain ⟨E2, hE2⟩ : ∃ Z, y3 - y1 = Z := ⟨_, rfl⟩
  rw [hD1, hD2] at HS1
  rw [hE1, hE2] at HS2
  rw [hD1, hD2, hE1, hE2] at HC
  clear hR hC hD1 hD2 hE1 hE2
  obtain ⟨sa1, pa1, ka1, ca1, qa1, ja1, da1, sa2, pa2, ka2, ca2, qa2, ja2, da2, rfl, ha1, ha2⟩ := ha.parts
  have HPa := Lib.hid ha
  have HPa1 := Lib.hid ha1
  have HPa2 := Lib.hid ha2
  clear ha ha1 ha2
  obtain ⟨sb1, pb1, kb1, cb1, qb1, jb1, db1, sb2, pb2, kb2, cb2, qb2, jb2, db2, rfl, hb1, hb2⟩ := hb.parts
  have HPb := Lib.hid hb
  have HPb1 := Lib.hid hb1
  have HPb2 := Lib.hid hb2
  clear hb hb1 hb2
  obtain ⟨sc1, pc1, kc1, cc1, qc1, jc1, dc1, sc2, pc2, kc2, cc2, qc2, jc2, dc2, rfl, hc1, hc2⟩ := hc.parts
  have HPc := Lib.hid hc
  have HPc1 := Lib.hid hc1
  have HPc2 := Lib.hid hc2
  clear hc hc1 hc2
  go_enter Tryz.func37, Tryz.ntmps37
  go_upto_region 1 with fail
  obtain ⟨hXa, hXb, hXc, hbw⟩ := boxes3 w (.cells #[.bool sa1, .slice pa1 ka1 ca1, .slice qa1 ja1 da1, .bool sa2, .slice pa2 ka2 ca2, .slice qa2 ja2 da2] 28) (.cells #[.bool sb1, .slice pb1 kb1 cb1, .slice qb1 jb1 db1, .bool sb2, .slice pb2 kb2 cb2, .slice qb2 jb2 db2] 28) (.cells #[.bool sc1, .slice pc1 kc1 cc1, .slice qc1 jc1 dc1, .bool sc2, .slice pc2 kc2 cc2, .slice qc2 jc2 dc2] 28)
  obtain ⟨W, hW⟩ : ∃ W, ((w.alloc (.cells #[.bool sa1, .slice pa1 ka1 ca1, .slice qa1 ja1 da1, .bool sa2, .slice pa2 ka2 ca2, .slice qa2 ja2 da2] 28)).alloc (.cells #[.bool sb1, .slice pb1 kb1 cb1, .slice qb1 jb1 db1, .bool sb2, .slice pb2 kb2 cb2, .slice qb2 jb2 db2] 28)).alloc (.cells #[.bool sc1, .slice pc1 kc1 cc1, .slice qc1 jc1 dc1, .bool sc2, .slice pc2 kc2 cc2, .slice qc2 jc2 dc2] 28) = W := ⟨_, rfl⟩
  rw [hW] at hXa hXb hXc hbw ⊢
  obtain ⟨Xa, eXa⟩ : ∃ X, w.heap.size = X := ⟨_, rfl⟩
  obtain ⟨Xb, eXb⟩ : ∃ X, Xa + 1 = X := ⟨_, rfl⟩
  obtain ⟨Xc, eXc⟩ : ∃ X, Xb + 1 = X := ⟨_, rfl⟩
  rw [eXa, eXb, eXc]
  rw [eXa] at hXa hXb hXc
  rw [eXb] at hXb hXc
  rw [eXc] at hXc
  have HXa := Lib.hid hXa
  have HXb := Lib.hid hXb
  have HXc := Lib.hid hXc
  have HBW := Lib.hid hbw
  have HGEXa : Hid (w.heap.size ≤ Xa) := by unfold Hid; omega
  have HGEXb : Hid (w.heap.size ≤ Xb) := by unfold Hid; omega
  have HGEXc : Hid (w.heap.size ≤ Xc) := by unfold Hid; omega
  have HLT : Hid (Xa < Xb ∧ Xb < Xc) := by unfold Hid; omega
  clear hW hbw hXa hXb hXc eXa eXb eXc
  refine region_flow 8 [[], [], [0, 1], [], [], [3, 4], [2, 5], [6]] [.is (.agg #[.bool sb1, .slice pb1 kb1 cb1, .slice qb1 jb1 db1, .bool sb2, .slice pb2 kb2 cb2, .slice qb2 jb2 db2]), .is (.agg #[.bool sa1, .slice pa1 ka1 ca1, .slice qa1 ja1 da1, .bool sa2, .slice pa2 ka2 ca2, .slice qa2 ja2 da2]), .has (fun v w => PC w v D1 D2), .is (.agg #[.bool sc1, .slice pc1 kc1 cc1, .slice qc1 jc1 dc1, .bool sc2, .slice pc2 kc2 cc2, .slice qc2 jc2 dc2]), .is (.agg #[.bool sa1, .slice pa1 ka1 ca1, .slice qa1 ja1 da1, .bool sa2, .slice pa2 ka2 ca2, .slice qa2 ja2 da2]), .has (fun v w => PC w v E1 E2), .has (fun v w => RC w v R), .is (.int .i64 C)] (by kernel_rfl) (by kernel_rfl) rfl (by simp only [Steady]; exact ⟨fun _ _ _ h hb => h.bel hb, fun _ _ _ h hb => h.bel hb, fun _ _ _ h hb => h.bel hb, trivial⟩) ?_
  simp only [List.take_succ_cons, List.take_zero, List.drop_succ_cons, List.drop_zero]
  refine fV (by rfl) (by intro w1 hw1 hk1; obtain ⟨c0, c1, c2, c3, c4, c5⟩ := boxc6 (hw1.heap HXb.out); go_simp) ?_
  simp only [Act.put, sA, sB, sC]
  refine fV (by rfl) (by intro w1 hw1 hk1; obtain ⟨c0, c1, c2, c3, c4, c5⟩ := boxc6 (hw1.heap HXa.out); go_simp) ?_
  simp only [Act.put, sA, sB, sC]
  refine fH (by rfl) (by intro w1 hw1 hk1; exact HS1.out _ (HBW.out.trans hw1)) (by intro; go_simp) (fun v2 => ?_)
  simp only [Act.put, sA, sB, sC]
  refine fV (by rfl) (by intro w1 hw1 hk1; obtain ⟨c0, c1, c2, c3, c4, c5⟩ := boxc6 (hw1.heap HXc.out); go_simp) ?_
  simp only [Act.put, sA, sB, sC]
  refine fV (by rfl) (by intro w1 hw1 hk1; obtain ⟨c0, c1, c2, c3, c4, c5⟩ := boxc6 (hw1.heap HXa.out); go_simp) ?_
  simp only [Act.put, sA, sB, sC]
  refine fH (by rfl) (by intro w1 hw1 hk1; exact HS2.out _ (HBW.out.trans hw1)) (by intro; go_simp) (fun v5 => ?_)
  simp only [Act.put, sA, sB, sC]
  refine fH (by rfl) (by intro w1 hw1 hk1; obtain ⟨g5, g2, -⟩ := hk1; exact HC.out _ _ _ g2 g5) (by intro; go_simp) (fun v6 => ?_)
  simp only [Act.put, sA, sB, sC]
  refine fC (by rfl) (by intro w1 hw1 hk1; obtain ⟨g6, -, -, -⟩ := hk1; exact HD.out _ _ g6) (by intro; go_simp) ?_
  simp only [Act.put, sA, sB, sC]
  intro w1 hw1 hk1
  obtain ⟨g6, g5, g2, -⟩ := hk1
  have HB3 := Lib.hid hw1
  clear hw1 g2 g5 g6 HS1 HS2 HC HD
  go_wp2
  go_ret
  exact ⟨_, rfl, HBW.out.trans HB3.out, rfl⟩
end Go.Proofs.YtafmfnpjhhaikaaGreatDoor

/-
  As XFlow's region_flow, for a region one of whose operations, which takes nothing but a part of what it has, may come behind the last ones as well ('extract' beside a late store).
-/
namespace Go.Proofs.YtafmfnpjhhaikaaGreatDoor
open Go

variable {P : Program} {ops : Array Oper} {md : Region.Mode} {w0 : World}
def holed (n k h : Nat) : Array Bool := (Array.range n).map fun i => decide (i < k) && i != h
/-- How the region must be made: nothing is written twice, each reads what it waits for, the last ones wait for all. -/
def flowHB (md : Region.Mode) (ops : Array Oper) (nq hole : Nat) (D : List (List Nat)) : Bool :=
  Region.noSelect ops && decide (nq ≤ ops.size) && (D.length == nq) &&
  ((List.range nq).all fun i => opAt ops i fun o => (o.after.all fun e => !Region.binds md e || decide (e.on < i)) &&
    ((D.getD i []).all fun k => decide (k < i) && reachF md ops k 8 o) &&
    (List.range nq).all fun k => opAt ops k fun o' => (match o'.dst with
      | none => true
      | some t => (k == i || o.dst != some t) && (!(o.looksAt ops).contains t || (D.getD i []).contains k))) &&
  ((List.range ops.size).all fun m => decide (m < nq) || opAt ops m fun o => (List.range nq).all fun i => i == hole || reachF md ops i 8 o) &&
  tailB md ops (ops.size - nq) nq && decide (hole < nq) && Region.free md ops (holed ops.size nq hole) hole
structure FormH (md : Region.Mode) (ops : Array Oper) (nq hole : Nat) (D : List (List Nat)) : Prop where
  sel : Region.noSelect ops = true
  le : nq ≤ ops.size
  len : D.length = nq
  op : ∀ i, i < nq → ∃ o, ops[i]? = some o
  back : ∀ i o, i < nq → ops[i]? = some o → ∀ e ∈ o.after, Region.binds md e = true → e.on < i
  dep : ∀ i o, i < nq → ops[i]? = some o → ∀ k ∈ D.getD i [], k < i ∧ reachF md ops k 8 o = true
  once : ∀ i o k o', i < nq → ops[i]? = some o → k < nq → ops[k]? = some o' → k ≠ i → ∀ t, o'.dst = some t → o.dst ≠ some t
  reads : ∀ i o k o', i < nq → ops[i]? = some o → k < nq → ops[k]? = some o' → ∀ t, o'.dst = some t → t ∈ o.looksAt ops → k ∈ D.getD i []
  tail : ∀ m o i, nq ≤ m → ops[m]? = some o → i < nq → i ≠ hole → reachF md ops i 8 o = true
  hlt : hole < nq
  free : Region.free md ops (holed ops.size nq hole) hole = true
  line : tailB md ops (ops.size - nq) nq = true
theorem formH_of {nq hole : Nat} {D : List (List Nat)} (h : flowHB md ops nq hole D = true) : FormH md ops nq hole D := by
  simp only [flowHB, Bool.and_eq_true, decide_eq_true_eq, beq_iff_eq] at h
  obtain ⟨⟨⟨⟨⟨⟨⟨h1, h2⟩, h3⟩, h4⟩, h5⟩, h6⟩, hh1⟩, hh2⟩ := h
  have g : ∀ i o, i < nq → ops[i]? = some o → ((o.after.all fun e => !Region.binds md e || decide (e.on < i)) &&
    ((D.getD i []).all fun k => decide (k < i) && reachF md ops k 8 o) &&
    (List.range nq).all fun k => opAt ops k fun o' => (match o'.dst with
      | none => true
      | some t => (k == i || o.dst != some t) && (!(o.looksAt ops).contains t || (D.getD i []).contains k))) = true := fun i o hi ho => by
    obtain ⟨o', ho', hp⟩ := opAt_of (List.all_eq_true.1 h4 i (List.mem_range.2 hi))
    rw [ho] at ho'
    cases ho'
    exact hp
  refine ⟨h1, h2, h3, fun i hi => ?_, fun i o hi ho e he hb => ?_, fun i o hi ho k hk => ?_, fun i o k o' hi ho hk ho' hne t ht hc => ?_, fun i o k o' hi ho hk ho' t ht hl => ?_, fun m o i hm ho hi hne => ?_, hh1, hh2, h6⟩
  · obtain ⟨o', ho', _⟩ := opAt_of (List.all_eq_true.1 h4 i (List.mem_range.2 hi))
    exact ⟨o', ho'⟩
  · have := g i o hi ho
    simp only [Bool.and_eq_true] at this
    have h7 := Array.all_eq_true_iff_forall_mem.1 this.1.1 e he
    simp only [Bool.or_eq_true, Bool.not_eq_true', decide_eq_true_eq] at h7
    rcases h7 with h7 | h7
    · rw [hb] at h7; cases h7
    · exact h7
  · have := g i o hi ho
    simp only [Bool.and_eq_true] at this
    have h7 := List.all_eq_true.1 this.1.2 k hk
    simpa using h7
  · have := g i o hi ho
    simp only [Bool.and_eq_true] at this
    obtain ⟨o2, ho2, hp⟩ := opAt_of (List.all_eq_true.1 this.2 k (List.mem_range.2 hk))
    rw [ho'] at ho2
    cases ho2
    simp only [ht, Bool.and_eq_true, Bool.or_eq_true, beq_iff_eq, bne_iff_ne] at hp
    rcases hp.1 with h8 | h8
    · exact hne h8
    · exact h8 hc
  · have := g i o hi ho
    simp only [Bool.and_eq_true] at this
    obtain ⟨o2, ho2, hp⟩ := opAt_of (List.all_eq_true.1 this.2 k (List.mem_range.2 hk))
    rw [ho'] at ho2
    cases ho2
    simp only [ht, Bool.and_eq_true, Bool.or_eq_true, Bool.not_eq_true', List.contains_eq_mem, decide_eq_true_eq, decide_eq_false_iff_not] at hp
    rcases hp.2 with h8 | h8
    · exact absurd hl h8
    · exact h8
  · have h7 := List.all_eq_true.1 h5 m (List.mem_range.2 (Array.getElem?_eq_some_iff.1 ho).1)
    simp only [Bool.or_eq_true, decide_eq_true_eq] at h7
    rcases h7 with h7 | h7
    · omega
    · obtain ⟨o2, ho2, hp⟩ := opAt_of h7
      rw [ho] at ho2
      cases ho2
      have := List.all_eq_true.1 hp i (List.mem_range.2 hi)
      simp only [Bool.or_eq_true, beq_iff_eq] at this
      exact this.resolve_left hne

theorem flow_any_hole {Q : Exit → Act → World → Prop} {T : Act → (World → Prop) → Prop} {nq : Nat} {D : List (List Nat)} {os : List Oper} {ss : List Spec} {a0 : Act} {s hole : Nat} {oh : Oper} (hF : FormH md ops nq hole D) (hoh : ops[hole]? = some oh) (hns : Region.noSelect ops = true) (hQ : ∀ v c a w, Q (.panic c) (Act.put a oh.dst v) w → Q (.panic c) a w) (hpure : ∀ (a : Act) (w : World) (c : Value), gives P oh a w (fun v _ => v = c) → ∀ w', (execOp a.eval oh).run P w' = .ok (.value c) w') (hhc : ∃ c, ss[hole]? = some (.is c)) (hos : ∀ k, k < nq → os[k]? = ops[k]?) (hol : os.length = nq) (hsl : ss.length = nq)
    (hst : Steady ss) (hfl : flow P ops w0 T D os ss 0 a0 []) (hT : ∀ a Kn, T a Kn → ∀ w, Bel w0 w → Kn w → wpAny P md ops Q s (firstN ops.size nq) a w) :
    ∀ (c : Nat) (listed : Array Bool) (a : Act) (w : World), cnt (fun i => listed.getD i false) nq = c → Inv md ops nq os ss w0 a0 listed a w → wpAny P md ops Q (c + s) listed a w := by
  intro c
  induction c with
  | zero =>
    intro listed a w hc hI
    obtain ⟨vs, hfit, rfl, hok⟩ := hI.vals
    have hall := cnt_zero hc
    have hl : listed = firstN ops.size nq := by
      refine Array.ext (by rw [hI.size]; simp [firstN]) fun i h1 h2 => ?_
      have e : listed[i] = listed.getD i false := by simp [h1]
      rw [e]
      simp only [firstN, Array.getElem_map, Array.getElem_range]
      by_cases hi : i < nq
      · rw [hall i hi]; simp [hi]
      · rw [hI.late i (by omega)]; simp [hi]
    have hend := flow_end ss D os 0 a0 [] vs (by omega) (by rw [hF.len]; omega) hfit hfl
    rw [Nat.zero_add]
    rw [putsM_all os 0 _ vs a0 (fun k _ hk => hall k (by omega)), hl]
    refine hT _ _ hend w hI.bel (all_of ss 0 vs [] w trivial fun k Φ hk => ?_)
    rw [Nat.zero_add]
    have hkn : k < nq := by have := (List.getElem?_eq_some_iff.1 hk).1; omega
    exact hok k (.has Φ) hkn (hall k hkn) hk
  | succ c ih =>
    intro listed a w hc hI
    obtain ⟨i0, hi0, hun, hlow⟩ := cnt_pos (f := fun i => listed.getD i false) (n := nq) (by omega)
    have untrue : ∀ {i : Nat}, i < ops.size → listed.getD i false = false → listed.getD i true = false := fun {i} hi h => by
      have : i < listed.size := by rw [hI.size]; exact hi
      simp [this] at h ⊢
      exact h
    have hready : i0 ∈ Region.ready md ops listed := by
      obtain ⟨o, ho⟩ := hF.op i0 hi0
      exact mem_ready.2 ⟨untrue (by have := hF.le; omega) hun, o, ho, fun e he hb => hlow e.on (hF.back i0 o hi0 ho e he hb)⟩
    have hcase : (c = 0 ∧ i0 = hole) ∨ ∃ i1, i1 < nq ∧ listed.getD i1 false = false ∧ i1 ≠ hole := by
      by_cases h0 : i0 = hole
      · by_cases hc0 : c = 0
        · exact .inl ⟨hc0, h0⟩
        · refine .inr ?_
          have h1 := (cnt_set (f := fun i => listed.getD i false) (g := fun i => if i = hole then true else listed.getD i false) (j := hole) (by rw [← h0]; exact hun) (by simp) (fun k hk => if_neg hk) (n := nq)).2 hF.hlt
          obtain ⟨i1, h2, h3, -⟩ := cnt_pos (f := fun i => if i = hole then true else listed.getD i false) (n := nq) (by omega)
          have h4 : i1 ≠ hole := fun h => by simp [h] at h3
          rw [if_neg h4] at h3
          exact ⟨i1, h2, h3, h4⟩
      · exact .inr ⟨i0, hi0, hun, h0⟩
    have hmain : ∀ j, j ∈ Region.ready md ops listed → j < nq → (c = 0 ∧ j = hole → wpAny P md ops Q (c + 1 + s) listed a w) ∧ wpOp P ops Q j (wpAny P md ops Q (c + s) (listed.setIfInBounds j true)) a w := by
      intro j hj hjn
      obtain ⟨hjun, oj, hoj, hall⟩ := mem_ready.1 hj
      have hjun' : listed.getD j false = false := by
        have : j < listed.size := by rw [hI.size]; have := hF.le; omega
        simp [this] at hjun ⊢
        exact hjun
      obtain ⟨vs, hfit, rfl, hok⟩ := hI.vals
      obtain ⟨sj, hsj⟩ : ∃ s, ss[j]? = some s := ⟨_, List.getElem?_eq_getElem (by omega)⟩
      obtain ⟨dj, hdj⟩ : ∃ d, D[j]? = some d := ⟨_, List.getElem?_eq_getElem (by rw [hF.len]; omega)⟩
      have hdj' : D.getD j [] = dj := by rw [List.getD_eq_getElem?_getD, hdj]; rfl
      have hoj' : os[j]? = some oj := (hos j hjn).trans hoj
      have hlist : ∀ k, k ∈ dj → k < j ∧ listed.getD k false = true := fun k hk => by
        have h1 := hF.dep j oj hjn hoj k (by rw [hdj']; exact hk)
        exact ⟨h1.1, reachF_listed hI.shut 8 oj hall h1.2⟩
      have hvc := flow_at D os ss 0 a0 [] vs hfit hfl j oj sj dj hoj' hsj hdj w hI.bel (known_of (ss.take j) 0 vs [] dj w trivial fun k Φ hk hkd => by
        rw [Nat.zero_add] at hkd ⊢
        obtain ⟨h1, h2⟩ := hlist k hkd
        rw [List.getElem?_take, if_pos h1] at hk
        exact hok k (.has Φ) (by omega) h2 hk)
      have hslots : ∀ t ∈ oj.looksAt ops, (putsL (os.take j) 0 vs a0).tmps[t]? = (putsM os 0 (fun i => listed.getD i false) vs a0).tmps[t]? := by
        intro t ht
        rw [putsL_take]
        refine slot_congr os 0 t _ _ vs a0 a0 rfl rfl fun k o hk hdst => ?_
        have hkn : k < nq := by have := (List.getElem?_eq_some_iff.1 hk).1; omega
        have h1 := hF.reads j oj k o hjn hoj hkn ((hos k hkn).symm.trans hk) t hdst ht
        rw [hdj'] at h1
        obtain ⟨h2, h3⟩ := hlist k h1
        rw [Nat.zero_add, h3]
        simp [h2]
      have hstep : ∀ u w', Bel w w' → sj.ok u w' → wpAny P md ops Q (c + s) (listed.setIfInBounds j true) ((putsM os 0 (fun i => listed.getD i false) vs a0).put oj.dst u) w' := by
        intro u w' hw' hu
        have hset : ∀ k, (listed.setIfInBounds j true).getD k false = if k = 0 + j then true else listed.getD k false := fun k => by
          rw [Nat.zero_add]
          by_cases hk : k = j
          · subst hk
            have : k < listed.size := by rw [hI.size]; have := hF.le; omega
            simp [this]
          · rw [if_neg hk, getD_set_ne false (Ne.symm hk)]
        refine ih _ _ _ ?_ ⟨by rw [Array.size_setIfInBounds]; exact hI.size, hI.shut.add hj, hI.bel.trans hw', fun k hk => ?_, fun k => if k = 0 + j then u else vs k, fun k c' hk => ?_, ?_, fun i s' hi hl hs' => ?_⟩
        · have := (cnt_set (f := fun i => listed.getD i false) (g := fun i => (listed.setIfInBounds j true).getD i false) (j := j) hjun' (by simp only [hset]; rw [if_pos (by omega)]) (fun k hk => by simp only [hset]; rw [if_neg (by omega)]) (n := nq)).2 hjn
          omega
        · rw [hset, if_neg (by omega)]; exact hI.late k hk
        · dsimp only
          rw [Nat.zero_add, Nat.zero_add]
          split
          · rename_i he
            rw [he, hsj] at hk
            simp only [Option.some.injEq] at hk
            subst hk
            exact hu
          · have := hfit k c' hk; rwa [Nat.zero_add] at this
        · rw [putsM_set os 0 j _ vs a0 oj u hoj' (by rw [Nat.zero_add]; exact hjun') (fun k o' hk hne t ht hc => by
            have hkn : k < nq := by have := (List.getElem?_eq_some_iff.1 hk).1; omega
            exact hF.once k o' j oj hkn ((hos k hkn).symm.trans hk) hjn hoj (Ne.symm hne) t ht hc)]
          congr 1
          funext k
          rw [hset]
        · rw [hset, Nat.zero_add] at hl
          dsimp only
          rw [Nat.zero_add]
          split
          · rename_i he
            rw [he, hsj] at hs'
            simp only [Option.some.injEq] at hs'
            subst hs'
            exact hu
          · rename_i he
            rw [if_neg he] at hl
            exact steady_at hst hs' _ _ _ (hok i s' hi hl hs') hw'
      refine ⟨fun hh => ?_, ?_⟩
      · obtain ⟨hc0, rfl⟩ := hh
        subst hc0
        rw [hoh] at hoj
        cases hoj
        obtain ⟨c1, hc1⟩ := hhc
        rw [hsj] at hc1
        cases hc1
        unfold VC at hvc
        rw [wanted_congr hslots] at hvc
        have hl : listed = holed ops.size nq j := by
          have h1 := (cnt_set (f := fun i => listed.getD i false) (g := fun i => if i = j then true else listed.getD i false) (j := j) hjun' (by simp) (fun k hk => if_neg hk) (n := nq)).2 hjn
          have hall := cnt_zero (f := fun i => if i = j then true else listed.getD i false) (n := nq) (by omega)
          refine Array.ext (by rw [hI.size]; simp [holed]) fun i h1 h2 => ?_
          have e : listed[i] = listed.getD i false := by simp [h1]
          rw [e]
          simp only [holed, Array.getElem_map, Array.getElem_range]
          by_cases hij : i = j
          · subst hij; rw [hjun']; simp
          · by_cases hi : i < nq
            · have := hall i hi
              rw [if_neg hij] at this
              rw [this]; simp [hi, hij]
            · rw [hI.late i (by omega)]; simp [hi]
        rw [show 0 + 1 + s = 0 + s + 1 by omega]
        refine wpAny_take (i := j) (oi := oh) (v := c1) hoh hns (by rw [hl]; exact hF.free) (by simpa using hj) (fun c a w => hQ _ c a w) ?_ (hstep c1 w (Bel.refl w) rfl)
        by_cases hwn : Region.wanted oh (yielded ops (putsM os 0 (fun i => listed.getD i false) vs a0).tmps) = true
        · rw [if_pos hwn] at hvc
          refine .inl ⟨hwn, fun w' => ?_⟩
          have := hpure _ _ _ hvc w'
          rwa [execOp_congr oh (fun cs b => Region.noSelect_spec hF.sel j oh cs b hoh) (eval_congr hslots)] at this
        · rw [if_neg hwn] at hvc
          exact .inr ⟨by simpa using hwn, hvc.symm⟩
      · unfold wpOp
        rw [hoj]
        dsimp only
        unfold VC at hvc
        rw [wanted_congr hslots] at hvc
        by_cases hwn : Region.wanted oj (yielded ops (putsM os 0 (fun i => listed.getD i false) vs a0).tmps) = true
        · rw [if_pos hwn] at hvc ⊢
          refine .inl ?_
          unfold gives at hvc
          unfold Oper.wp
          rw [execOp_congr oj (fun cs b => Region.noSelect_spec hF.sel j oj cs b hoj) (eval_congr hslots)] at hvc
          generalize (execOp (putsM os 0 (fun i => listed.getD i false) vs a0).eval oj).run P w = r at hvc ⊢
          cases r with
          | halt x w' => exact hvc.elim
          | ok x w' =>
            cases x <;> simp only [givesUpon] at hvc <;> simp only [Oper.upon]
            case value u => exact hstep u w' hvc.1 hvc.2
            case skip => exact hstep undef w' hvc.1 hvc.2
            case enter f args =>
              refine hvc.mono fun e w'' he => ?_
              obtain ⟨u, rfl, h1, h2⟩ := he
              exact hstep u w'' h1 h2
        · rw [if_neg hwn] at hvc ⊢
          exact hstep undef w (Bel.refl w) hvc
    rcases hcase with ⟨hc0, hih⟩ | ⟨i1, hi1, hun1, hne1⟩
    · exact (hmain i0 hready hi0).1 ⟨hc0, hih⟩
    · rw [Nat.succ_add]
      refine ⟨fun h => (by rw [h] at hready; cases hready), fun j hj => ?_⟩
      obtain ⟨-, oj, hoj, hall⟩ := mem_ready.1 hj
      have hjn : j < nq := by
        by_cases h : j < nq
        · exact h
        · have h1 := reachF_listed hI.shut 8 oj hall (hF.tail j oj i1 (by omega) hoj hi1 hne1)
          rw [h1] at hun1
          cases hun1
      exact (hmain j hj hjn).2
/-- A region that draws its order: each operation by itself, from what it waited for; then the last ones in line. -/
theorem region_flow_hole {id : Nat} {Q : Exit → Act → World → Prop} {a : Act} {w : World} {l : List Oper} (nq hole : Nat) (oh : Oper) (D : List (List Nat)) (ss : List Spec) (hm : P.follows .mixedOrders = true) (hB : flowHB .any l.toArray nq hole D = true) (hoh : l.toArray[hole]? = some oh) (hns : Region.noSelect l.toArray = true) (hQ : ∀ v c a w, Q (.panic c) (Act.put a oh.dst v) w → Q (.panic c) a w) (hpure : ∀ (a : Act) (w : World) (c : Value), gives P oh a w (fun v _ => v = c) → ∀ w', (execOp a.eval oh).run P w' = .ok (.value c) w') (hhc : ∃ c, ss[hole]? = some (.is c)) (hsl : ss.length = nq) (hst : Steady ss)
    (h : flow P l.toArray w (fun a' Kn => ∀ w', Bel w w' → Kn w' → wpList P l.toArray Q (l.drop nq) a' w') D (l.take nq) ss 0 a []) : (Code.region id l.toArray true).wp P Q a w := by
  have hF := formH_of hB
  have hle : nq ≤ l.length := by simpa using hF.le
  refine wp_region_any hm ?_
  have hcnt : cnt (fun i => (Array.replicate l.toArray.size false).getD i false) nq = nq := by
    have : ∀ n, cnt (fun i => (Array.replicate l.toArray.size false).getD i false) n = n := fun n => by
      induction n with
      | zero => rfl
      | succ n ih => simp only [cnt]; rw [ih, if_neg (by rw [getD_replicate_false]; simp)]
    exact this nq
  have h1 := flow_any_hole (Q := Q) (s := l.toArray.size - nq) (os := l.take nq) hF hoh hns hQ hpure hhc (fun k hk => by rw [List.getElem?_take, if_pos hk]; simp) (by rw [List.length_take]; omega) hsl hst h
    (fun a' Kn hT w' hw' hk => wpAny_line (l.toArray.size - nq) nq (l.drop nq) a' w' (by simp; omega) (fun j => by rw [List.getElem?_drop]; simp) (by simp) hF.line (hT w' hw' hk))
    nq (Array.replicate l.toArray.size false) a { w with drawn := w.drawn + 1 } hcnt
    ⟨by simp, fun j o _ hl => (by rw [getD_replicate_false] at hl; cases hl), (Bel.refl w).drew, fun j _ => getD_replicate_false _ _, fun k => match ss[k]? with | some (.is c) => c | _ => undef, fun k c hk => by rw [Nat.zero_add]; simp only [hk],
      (putsM_none _ _ _ _ _ (fun k _ => getD_replicate_false _ _)).symm, fun i s _ hl => (by rw [getD_replicate_false] at hl; cases hl)⟩
  rw [show nq + (l.toArray.size - nq) = l.toArray.size by simp; omega] at h1
  exact h1
/-- 'extract' takes nothing of the world. -/
theorem extract_pure {o : Oper} {t : Operand} {ix : Nat} (ho : o.op = .extract t ix) (a : Act) (w : World) (c : Value) (h : gives P o a w (fun v _ => v = c)) (w' : World) : (execOp a.eval o).run P w' = .ok (.value c) w' := by
  unfold gives at h
  obtain ⟨d, op, ty, ps, af, gd⟩ := o
  simp only at ho
  subst ho
  generalize ht : a.eval t = v at h ⊢
  have e : ∀ w, (execOp a.eval { dst := d, op := Op.extract t ix, type := ty, pos := ps, after := af, guard := gd }).run P w = ((do pure (Next.value (← Instr.extract v ix))) : Sem Next).run P w := by
    intro w
    rw [← ht]
    rfl
  rw [e] at h ⊢
  unfold Instr.extract at h ⊢
  cases v <;> simp [go_sem, givesUpon] at h ⊢
  rename_i vs
  cases hv : vs[ix]? with
  | none => rw [hv] at h; simp [go_sem] at h
  | some u =>
    rw [hv] at h
    simp [go_sem] at h ⊢
    exact h.2
theorem gives_new {o : Oper} {a : Act} {w w' : World} {Φ : Value → World → Prop} {c : Value} (h : (execOp a.eval o).run P w = .ok (.value c) w') (hb : Bel w w') (hc : Φ c w') : gives P o a w Φ := by
  unfold gives
  rw [h]
  exact ⟨hb, hc⟩
end Go.Proofs.YtafmfnpjhhaikaaGreatDoor
