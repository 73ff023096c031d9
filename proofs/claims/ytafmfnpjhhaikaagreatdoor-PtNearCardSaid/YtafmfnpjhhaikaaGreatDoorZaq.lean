/-
  pt: Far, Same (printed by gen_ptc.py).
-/
import Derived.Test.YtafmfnpjhhaikaaGreatDoorZap
namespace Go.Proofs.YtafmfnpjhhaikaaGreatDoor
open Go.RowKit Go.Shelf

def farR (x1 y1 x2 y2 : Rat) : Rat := (x1 - x2) * (x1 - x2) + (y1 - y2) * (y1 - y2)
theorem Sz.far {i j : Nat} {x1 y1 x2 y2 : Rat} (hx1 : Sz i x1) (hy1 : Sz i y1) (hx2 : Sz j x2) (hy2 : Sz j y2) : Sz (4 * (i + j + 1) + 1) (farR x1 y1 x2 y2) := by
  have s1 := hx1.sub hx2
  have s2 := hy1.sub hy2
  exact ((s1.mul s1).add (s2.mul s2)).mono (by omega)
theorem cmpR_eq {x y : Rat} : cmpR x y = 0 ↔ x = y := by
  unfold cmpR
  by_cases h : x < y
  · rw [if_pos h]
    exact ⟨fun h' => by omega, fun h' => absurd h (by rw [h']; exact Rat.lt_irrefl)⟩
  · rw [if_neg h]
    by_cases h2 : x = y
    · rw [if_pos h2]; exact ⟨fun _ => h2, fun _ => rfl⟩
    · rw [if_neg h2]; exact ⟨fun h' => by omega, fun h' => absurd h' h2⟩
set_option maxHeartbeats 4000000 in
set_option maxRecDepth 100000 in
theorem mk_far {w : World} {a b : Value} {x1 y1 x2 y2 : Rat} {i j : Nat} (ha : PS i w a x1 y1) (hb : PS j w b x2 y2) (hl : 4 * (i + j + 1) < LimK) : Calls Tryz.prog 39 #[a, b] w (Makes w fun v w' => RC w' v (farR x1 y1 x2 y2)) := by
  obtain ⟨_, _, _, _, _, _, -, hx1, hy1⟩ := id ha
  obtain ⟨_, _, _, _, _, _, -, hx2, hy2⟩ := id hb
  have s1 := hx1.2.sub hx2.2
  have s2 := hy1.2.sub hy2.2
  have HS := Lib.hid (fun X (hX : Bel w X) => mk_psub (ha.bel hX) (hb.bel hX) (by omega))
  have HD : Hid (∀ X u, PC X u (x1 - x2) (y1 - y2) → _) := fun X u hu => mk_dot (hu.ps s1 s2 (by omega)) (hu.ps s1 s2 (by omega)) (by omega)
  unfold farR
  obtain ⟨R, hR⟩ : ∃ Z, (x1 - x2) * (x1 - x2) + (y1 - y2) * (y1 - y2) = Z := ⟨_, rfl⟩
  rw [hR] at HD ⊢
  obtain ⟨D1, hD1⟩ : ∃ Z, x1 - x2 = Z := ⟨_, rfl⟩
  obtain ⟨D2, hD2⟩ : ∃ Z, y1 - y2 = Z := ⟨_, rfl⟩
  rw [hD1, hD2] at HS HD
  clear hl hR hD1 hD2 s1 s2 hx1 hx2 hy1 hy2
  obtain ⟨sa1, pa1, ka1, ca1, qa1, ja1, da1, sa2, pa2, ka2, ca2, qa2, ja2, da2, rfl, ha1, ha2⟩ := ha.parts
  have HPa := Lib.hid ha
  have HPa1 := Lib.hid ha1
  have HPa2 := Lib.hid ha2
  clear ha ha1 ha2
  obtain ⟨sb1, pb1, kb1, cb1, qb1, jb1, db1, sb2, pb2, kb2, cb2, qb2, jb2, db2, rfl, hb1, hb2⟩ := hb.parts
  have HPb := Lib.hid hb
  have HPb1 := Lib.hid hb1
  have HPb2 := Lib.hid hb2
  clear hb hb1 hb2
  go_enter Tryz.func39, Tryz.ntmps39
  go_upto_region 1 with fail
  obtain ⟨hXa, hXb, hXR, hbw⟩ := boxes3 w (.cells #[.bool sa1, .slice pa1 ka1 ca1, .slice qa1 ja1 da1, .bool sa2, .slice pa2 ka2 ca2, .slice qa2 ja2 da2] 28) (.cells #[.bool sb1, .slice pb1 kb1 cb1, .slice qb1 jb1 db1, .bool sb2, .slice pb2 kb2 cb2, .slice qb2 jb2 db2] 28) (.cells #[.bool false, .slice none 0 0, .slice none 0 0] 26)
  obtain ⟨W, hW⟩ : ∃ W, ((w.alloc (.cells #[.bool sa1, .slice pa1 ka1 ca1, .slice qa1 ja1 da1, .bool sa2, .slice pa2 ka2 ca2, .slice qa2 ja2 da2] 28)).alloc (.cells #[.bool sb1, .slice pb1 kb1 cb1, .slice qb1 jb1 db1, .bool sb2, .slice pb2 kb2 cb2, .slice qb2 jb2 db2] 28)).alloc (.cells #[.bool false, .slice none 0 0, .slice none 0 0] 26) = W := ⟨_, rfl⟩
  rw [hW] at hXa hXb hXR hbw ⊢
  obtain ⟨Xa, eXa⟩ : ∃ X, w.heap.size = X := ⟨_, rfl⟩
  obtain ⟨Xb, eXb⟩ : ∃ X, Xa + 1 = X := ⟨_, rfl⟩
  obtain ⟨XR, eXR⟩ : ∃ X, Xb + 1 = X := ⟨_, rfl⟩
  rw [eXa, eXb, eXR]
  rw [eXa] at hXa hXb hXR
  rw [eXb] at hXb hXR
  rw [eXR] at hXR
  have HXa := Lib.hid hXa
  have HXb := Lib.hid hXb
  have HXR := Lib.hid hXR
  have HBW := Lib.hid hbw
  have HGEXa : Hid (w.heap.size ≤ Xa) := by unfold Hid; omega
  have HGEXb : Hid (w.heap.size ≤ Xb) := by unfold Hid; omega
  have HGEXR : Hid (w.heap.size ≤ XR) := by unfold Hid; omega
  have HLT : Hid (Xa < Xb ∧ Xb < XR) := by unfold Hid; omega
  clear hW hbw hXa hXb hXR eXa eXb eXR
  refine line_region 3 [[], [], [0, 1]] [.is (.agg #[.bool sa1, .slice pa1 ka1 ca1, .slice qa1 ja1 da1, .bool sa2, .slice pa2 ka2 ca2, .slice qa2 ja2 da2]), .is (.agg #[.bool sb1, .slice pb1 kb1 cb1, .slice qb1 jb1 db1, .bool sb2, .slice pb2 kb2 cb2, .slice qb2 jb2 db2]), .has (fun v w => PC w v D1 D2)] rfl rfl (by decide) (by simp only [Steady]; exact ⟨fun _ _ _ h hb => h.bel hb, trivial⟩) ?_
  simp only [List.take_succ_cons, List.take_zero, List.drop_succ_cons, List.drop_zero]
  refine fV (by rfl) (by intro w1 hw1 hk1; obtain ⟨c0, c1, c2, c3, c4, c5⟩ := boxc6 (hw1.heap HXa.out); go_simp) ?_
  simp only [Act.put, sA, sB, sC]
  refine fV (by rfl) (by intro w1 hw1 hk1; obtain ⟨c0, c1, c2, c3, c4, c5⟩ := boxc6 (hw1.heap HXb.out); go_simp) ?_
  simp only [Act.put, sA, sB, sC]
  refine fH (by rfl) (by intro w1 hw1 hk1; exact HS.out _ (HBW.out.trans hw1)) (by intro; go_simp) (fun v2 => ?_)
  simp only [Act.put, sA, sB, sC]
  intro w1 hw1 hk1
  obtain ⟨g2, -⟩ := hk1
  obtain ⟨pe1, ke1, ce1, qe1, je1, de1, pe2, ke2, ce2, qe2, je2, de2, rfl, -, -⟩ := g2.slice
  have HGd0 := Lib.hid g2
  have HB0 := Lib.hid hw1
  clear g2 hw1
  go_upto_region 2 with fail
  obtain ⟨r1, bb5⟩ := boxes1 w1 (.cells #[.bool (decide (D1.num < 0)), .slice pe1 ke1 ce1, .slice qe1 je1 de1, .bool (decide (D2.num < 0)), .slice pe2 ke2 ce2, .slice qe2 je2 de2] 28 (0, 0))
  obtain ⟨Xe, hXe⟩ : ∃ X, w1.heap.size = X := ⟨_, rfl⟩
  rw [hXe] at r1 ⊢
  obtain ⟨W6, hW6⟩ : ∃ W', w1.alloc (.cells #[.bool (decide (D1.num < 0)), .slice pe1 ke1 ce1, .slice qe1 je1 de1, .bool (decide (D2.num < 0)), .slice pe2 ke2 ce2, .slice qe2 je2 de2] 28 (0, 0)) = W' := ⟨_, rfl⟩
  rw [hW6] at r1 bb5 ⊢
  have HXe := Lib.hid r1
  have HGe := Lib.hid (HGd0.out.bel bb5)
  have HBW6 := Lib.hid (HBW.out.trans (HB0.out.trans bb5))
  have hkR := HB0.out.trans bb5 |>.heap HXR.out
  clear HXR
  have HXR := Lib.hid hkR
  clear hkR
  clear r1 bb5 hXe hW6 HGd0 HB0
  refine line_region 3 [[], [], [0, 1]] [.is (.agg #[.bool (decide (D1.num < 0)), .slice pe1 ke1 ce1, .slice qe1 je1 de1, .bool (decide (D2.num < 0)), .slice pe2 ke2 ce2, .slice qe2 je2 de2]), .is (.agg #[.bool (decide (D1.num < 0)), .slice pe1 ke1 ce1, .slice qe1 je1 de1, .bool (decide (D2.num < 0)), .slice pe2 ke2 ce2, .slice qe2 je2 de2]), .has (fun v w => RC w v R)] rfl rfl (by decide) (by simp only [Steady]; exact ⟨fun _ _ _ h hb => h.bel hb, trivial⟩) ?_
  simp only [List.take_succ_cons, List.take_zero, List.drop_succ_cons, List.drop_zero]
  refine fV (by rfl) (by intro w1 hw1 hk1; obtain ⟨c0, c1, c2, c3, c4, c5⟩ := boxc6 (hw1.heap HXe.out); go_simp) ?_
  simp only [Act.put, sA, sB, sC]
  refine fV (by rfl) (by intro w1 hw1 hk1; obtain ⟨c0, c1, c2, c3, c4, c5⟩ := boxc6 (hw1.heap HXe.out); go_simp) ?_
  simp only [Act.put, sA, sB, sC]
  refine fH (by rfl) (by intro w1 hw1 hk1; exact HD.out _ _ (HGe.out.bel hw1)) (by intro; go_simp) (fun v2 => ?_)
  simp only [Act.put, sA, sB, sC]
  intro w1 hw1 hk1
  obtain ⟨g2, -⟩ := hk1
  obtain ⟨pr1, kr1, cr1, qr1, jr1, dr1, rfl, -, -⟩ := g2.slice
  have HV := Lib.hid g2
  have HB3 := Lib.hid hw1
  have hhXR := (HB3.out).heap HXR.out
  have HHXR := Lib.hid hhXR
  have dXR0 : w1.cell? ⟨XR, 0, none⟩ = some (.bool false) := (heap_cell hhXR 0).trans rfl
  have fXR0 : w1.frozen? ⟨XR, 0, none⟩ = false := heap_frozen hhXR 0
  have dXR1 : w1.cell? ⟨XR, 1, none⟩ = some (.slice none 0 0) := (heap_cell hhXR 1).trans rfl
  have fXR1 : w1.frozen? ⟨XR, 1, none⟩ = false := heap_frozen hhXR 1
  have dXR2 : w1.cell? ⟨XR, 2, none⟩ = some (.slice none 0 0) := (heap_cell hhXR 2).trans rfl
  have fXR2 : w1.frozen? ⟨XR, 2, none⟩ = false := heap_frozen hhXR 2
  clear hhXR
  clear hw1 g2 HD
  go_wp2
  obtain ⟨kb, kp, kh⟩ := finAll (vs := [.bool (decide (R.num < 0)), .slice pr1 kr1 cr1, .slice qr1 jr1 dr1]) (HBW6.out.trans HB3.out) HHXR.out rfl HGEXR.out (Φ := fun W2 => RC W2 (.agg #[.bool (decide (R.num < 0)), .slice pr1 kr1 cr1, .slice qr1 jr1 dr1]) R) (fun W2 ho => HV.out.only ho HHXR.out (noInt_rat _ _ _ _ _ _ _))
  have kk0 : (setAll w1 XR 0 [.bool (decide (R.num < 0)), .slice pr1 kr1 cr1, .slice qr1 jr1 dr1]).cell? ⟨XR, 0, none⟩ = some (.bool (decide (R.num < 0))) := (heap_cell kh 0).trans rfl
  have kk1 : (setAll w1 XR 0 [.bool (decide (R.num < 0)), .slice pr1 kr1 cr1, .slice qr1 jr1 dr1]).cell? ⟨XR, 1, none⟩ = some (.slice pr1 kr1 cr1) := (heap_cell kh 1).trans rfl
  have kk2 : (setAll w1 XR 0 [.bool (decide (R.num < 0)), .slice pr1 kr1 cr1, .slice qr1 jr1 dr1]).cell? ⟨XR, 2, none⟩ = some (.slice qr1 jr1 dr1) := (heap_cell kh 2).trans rfl
  simp only [setAll] at kb kp kk0 kk1 kk2
  exact bodyPost_ret (v := .agg #[.bool (decide (R.num < 0)), .slice pr1 kr1 cr1, .slice qr1 jr1 dr1]) (by simp [results, Tryz.results39, go_sem, kk0, kk1, kk2]) rfl ⟨_, rfl, kb, kp⟩
set_option maxHeartbeats 4000000 in
set_option maxRecDepth 100000 in
theorem mk_same {w : World} {a b : Value} {x1 y1 x2 y2 : Rat} {i j : Nat} (ha : PS i w a x1 y1) (hb : PS j w b x2 y2) (hl : i + j < LimK) : Calls Tryz.prog 34 #[a, b] w (Makes w fun v _ => v = .bool (decide (x1 = x2 ∧ y1 = y2))) := by
  have HC1 : Hid (∀ X u v, RS i X u x1 → RS j X v x2 → _) := fun X u v hu hv => mk_rcmp hu hv hl
  have HC2 : Hid (∀ X u v, RS i X u y1 → RS j X v y2 → _) := fun X u v hu hv => mk_rcmp hu hv hl
  rw [show decide (x1 = x2 ∧ y1 = y2) = decide (cmpR x1 x2 = 0 ∧ cmpR y1 y2 = 0) by simp only [cmpR_eq]]
  obtain ⟨C1, hC1⟩ : ∃ Z, cmpR x1 x2 = Z := ⟨_, rfl⟩
  obtain ⟨C2, hC2⟩ : ∃ Z, cmpR y1 y2 = Z := ⟨_, rfl⟩
  rw [hC1] at HC1 ⊢
  rw [hC2] at HC2 ⊢
  clear hC1 hC2 hl
  by_cases h1 : C1 = 0
  · subst h1
    by_cases h2 : C2 = 0
    · subst h2
      rw [show decide ((0 : Int) = 0 ∧ (0 : Int) = 0) = true from rfl]
      obtain ⟨sa1, pa1, ka1, ca1, qa1, ja1, da1, sa2, pa2, ka2, ca2, qa2, ja2, da2, rfl, ha1, ha2⟩ := ha.parts
      have HPa := Lib.hid ha
      have HPa1 := Lib.hid ha1
      have HPa2 := Lib.hid ha2
      clear ha ha1 ha2
      obtain ⟨sb1, pb1, kb1, cb1, qb1, jb1, db1, sb2, pb2, kb2, cb2, qb2, jb2, db2, rfl, hb1, hb2⟩ := hb.parts
      have HPb := Lib.hid hb
      have HPb1 := Lib.hid hb1
      have HPb2 := Lib.hid hb2
      clear hb hb1 hb2
      go_enter Tryz.func34, Tryz.ntmps34
      go_upto_region 1 with fail
      obtain ⟨hXa, hXb, hbw⟩ := boxes2 w (.cells #[.bool sa1, .slice pa1 ka1 ca1, .slice qa1 ja1 da1, .bool sa2, .slice pa2 ka2 ca2, .slice qa2 ja2 da2] 28) (.cells #[.bool sb1, .slice pb1 kb1 cb1, .slice qb1 jb1 db1, .bool sb2, .slice pb2 kb2 cb2, .slice qb2 jb2 db2] 28)
      obtain ⟨W, hW⟩ : ∃ W, (w.alloc (.cells #[.bool sa1, .slice pa1 ka1 ca1, .slice qa1 ja1 da1, .bool sa2, .slice pa2 ka2 ca2, .slice qa2 ja2 da2] 28)).alloc (.cells #[.bool sb1, .slice pb1 kb1 cb1, .slice qb1 jb1 db1, .bool sb2, .slice pb2 kb2 cb2, .slice qb2 jb2 db2] 28) = W := ⟨_, rfl⟩
      rw [hW] at hXa hXb hbw ⊢
      obtain ⟨Xa, eXa⟩ : ∃ X, w.heap.size = X := ⟨_, rfl⟩
      obtain ⟨Xb, eXb⟩ : ∃ X, Xa + 1 = X := ⟨_, rfl⟩
      rw [eXa, eXb]
      rw [eXa] at hXa hXb
      rw [eXb] at hXb
      have HXa := Lib.hid hXa
      have HXb := Lib.hid hXb
      have HBW := Lib.hid hbw
      have HGEXa : Hid (w.heap.size ≤ Xa) := by unfold Hid; omega
      have HGEXb : Hid (w.heap.size ≤ Xb) := by unfold Hid; omega
      have HLT : Hid (Xa < Xb) := by unfold Hid; omega
      clear hW hbw hXa hXb eXa eXb
      refine line_region 14 [[], [0], [], [2], [1, 3], [4], [5], [6], [6, 7], [6], [6, 9], [6, 8, 10], [6, 11], [6, 12]] [.is (.pointer (some ⟨Xa, 0, none⟩)), .is (.agg #[.bool sa1, .slice pa1 ka1 ca1, .slice qa1 ja1 da1]), .is (.pointer (some ⟨Xb, 0, none⟩)), .is (.agg #[.bool sb1, .slice pb1 kb1 cb1, .slice qb1 jb1 db1]), .is (.int .i64 0), .is (.bool true), .is (.bool true), .is (.pointer (some ⟨Xa, 3, none⟩)), .is (.agg #[.bool sa2, .slice pa2 ka2 ca2, .slice qa2 ja2 da2]), .is (.pointer (some ⟨Xb, 3, none⟩)), .is (.agg #[.bool sb2, .slice pb2 kb2 cb2, .slice qb2 jb2 db2]), .is (.int .i64 0), .is (.bool true), .is (.bool true)] rfl rfl (by decide) (by simp only [Steady]) ?_
      simp only [List.take_succ_cons, List.take_zero, List.drop_succ_cons, List.drop_zero]
      refine fV (by rfl) (by intro w1 hw1 hk1; go_simp) ?_
      simp only [Act.put, sA, sB, sC]
      refine fV (by rfl) (by intro w1 hw1 hk1; obtain ⟨c0, c1, c2, -, -, -⟩ := boxc6 (hw1.heap HXa.out); go_simp) ?_
      simp only [Act.put, sA, sB, sC]
      refine fV (by rfl) (by intro w1 hw1 hk1; go_simp) ?_
      simp only [Act.put, sA, sB, sC]
      refine fV (by rfl) (by intro w1 hw1 hk1; obtain ⟨c0, c1, c2, -, -, -⟩ := boxc6 (hw1.heap HXb.out); go_simp) ?_
      simp only [Act.put, sA, sB, sC]
      refine fC (by rfl) (by intro w1 hw1 hk1; exact HC1.out _ _ _ (HPa1.out.bel (HBW.out.trans hw1)) (HPb1.out.bel (HBW.out.trans hw1))) (by intro; go_simp) ?_
      simp only [Act.put, sA, sB, sC]
      refine fV (by rfl) (by intro w1 hw1 hk1; go_simp) ?_
      simp only [Act.put, sA, sB, sC]
      refine fV (by rfl) (by intro w1 hw1 hk1; go_simp) ?_
      simp only [Act.put, sA, sB, sC]
      refine fV (by rfl) (by intro w1 hw1 hk1; go_simp) ?_
      simp only [Act.put, sA, sB, sC]
      refine fV (by rfl) (by intro w1 hw1 hk1; obtain ⟨-, -, -, c3, c4, c5⟩ := boxc6 (hw1.heap HXa.out); go_simp) ?_
      simp only [Act.put, sA, sB, sC]
      refine fV (by rfl) (by intro w1 hw1 hk1; go_simp) ?_
      simp only [Act.put, sA, sB, sC]
      refine fV (by rfl) (by intro w1 hw1 hk1; obtain ⟨-, -, -, c3, c4, c5⟩ := boxc6 (hw1.heap HXb.out); go_simp) ?_
      simp only [Act.put, sA, sB, sC]
      refine fC (by rfl) (by intro w1 hw1 hk1; exact HC2.out _ _ _ (HPa2.out.bel (HBW.out.trans hw1)) (HPb2.out.bel (HBW.out.trans hw1))) (by intro; go_simp) ?_
      simp only [Act.put, sA, sB, sC]
      refine fV (by rfl) (by intro w1 hw1 hk1; go_simp) ?_
      simp only [Act.put, sA, sB, sC]
      refine fV (by rfl) (by intro w1 hw1 hk1; go_simp) ?_
      simp only [Act.put, sA, sB, sC]
      intro w1 hw1 hk1
      have HB3 := Lib.hid hw1
      clear hw1
      go_wp2
      go_ret
      exact ⟨_, rfl, HBW.out.trans HB3.out, rfl⟩
    · have HN2 := Lib.hid h2
      rw [show decide ((0 : Int) = 0 ∧ C2 = 0) = false by simp [h2]]
      clear h2
      obtain ⟨sa1, pa1, ka1, ca1, qa1, ja1, da1, sa2, pa2, ka2, ca2, qa2, ja2, da2, rfl, ha1, ha2⟩ := ha.parts
      have HPa := Lib.hid ha
      have HPa1 := Lib.hid ha1
      have HPa2 := Lib.hid ha2
      clear ha ha1 ha2
      obtain ⟨sb1, pb1, kb1, cb1, qb1, jb1, db1, sb2, pb2, kb2, cb2, qb2, jb2, db2, rfl, hb1, hb2⟩ := hb.parts
      have HPb := Lib.hid hb
      have HPb1 := Lib.hid hb1
      have HPb2 := Lib.hid hb2
      clear hb hb1 hb2
      go_enter Tryz.func34, Tryz.ntmps34
      go_upto_region 1 with fail
      obtain ⟨hXa, hXb, hbw⟩ := boxes2 w (.cells #[.bool sa1, .slice pa1 ka1 ca1, .slice qa1 ja1 da1, .bool sa2, .slice pa2 ka2 ca2, .slice qa2 ja2 da2] 28) (.cells #[.bool sb1, .slice pb1 kb1 cb1, .slice qb1 jb1 db1, .bool sb2, .slice pb2 kb2 cb2, .slice qb2 jb2 db2] 28)
      obtain ⟨W, hW⟩ : ∃ W, (w.alloc (.cells #[.bool sa1, .slice pa1 ka1 ca1, .slice qa1 ja1 da1, .bool sa2, .slice pa2 ka2 ca2, .slice qa2 ja2 da2] 28)).alloc (.cells #[.bool sb1, .slice pb1 kb1 cb1, .slice qb1 jb1 db1, .bool sb2, .slice pb2 kb2 cb2, .slice qb2 jb2 db2] 28) = W := ⟨_, rfl⟩
      rw [hW] at hXa hXb hbw ⊢
      obtain ⟨Xa, eXa⟩ : ∃ X, w.heap.size = X := ⟨_, rfl⟩
      obtain ⟨Xb, eXb⟩ : ∃ X, Xa + 1 = X := ⟨_, rfl⟩
      rw [eXa, eXb]
      rw [eXa] at hXa hXb
      rw [eXb] at hXb
      have HXa := Lib.hid hXa
      have HXb := Lib.hid hXb
      have HBW := Lib.hid hbw
      have HGEXa : Hid (w.heap.size ≤ Xa) := by unfold Hid; omega
      have HGEXb : Hid (w.heap.size ≤ Xb) := by unfold Hid; omega
      have HLT : Hid (Xa < Xb) := by unfold Hid; omega
      clear hW hbw hXa hXb eXa eXb
      refine line_region 14 [[], [0], [], [2], [1, 3], [4], [5], [6], [6, 7], [6], [6, 9], [6, 8, 10], [6, 11], [6, 12]] [.is (.pointer (some ⟨Xa, 0, none⟩)), .is (.agg #[.bool sa1, .slice pa1 ka1 ca1, .slice qa1 ja1 da1]), .is (.pointer (some ⟨Xb, 0, none⟩)), .is (.agg #[.bool sb1, .slice pb1 kb1 cb1, .slice qb1 jb1 db1]), .is (.int .i64 0), .is (.bool true), .is (.bool true), .is (.pointer (some ⟨Xa, 3, none⟩)), .is (.agg #[.bool sa2, .slice pa2 ka2 ca2, .slice qa2 ja2 da2]), .is (.pointer (some ⟨Xb, 3, none⟩)), .is (.agg #[.bool sb2, .slice pb2 kb2 cb2, .slice qb2 jb2 db2]), .is (.int .i64 C2), .is (.bool false), .is (.bool false)] rfl rfl (by decide) (by simp only [Steady]) ?_
      simp only [List.take_succ_cons, List.take_zero, List.drop_succ_cons, List.drop_zero]
      refine fV (by rfl) (by intro w1 hw1 hk1; go_simp) ?_
      simp only [Act.put, sA, sB, sC]
      refine fV (by rfl) (by intro w1 hw1 hk1; obtain ⟨c0, c1, c2, -, -, -⟩ := boxc6 (hw1.heap HXa.out); go_simp) ?_
      simp only [Act.put, sA, sB, sC]
      refine fV (by rfl) (by intro w1 hw1 hk1; go_simp) ?_
      simp only [Act.put, sA, sB, sC]
      refine fV (by rfl) (by intro w1 hw1 hk1; obtain ⟨c0, c1, c2, -, -, -⟩ := boxc6 (hw1.heap HXb.out); go_simp) ?_
      simp only [Act.put, sA, sB, sC]
      refine fC (by rfl) (by intro w1 hw1 hk1; exact HC1.out _ _ _ (HPa1.out.bel (HBW.out.trans hw1)) (HPb1.out.bel (HBW.out.trans hw1))) (by intro; go_simp) ?_
      simp only [Act.put, sA, sB, sC]
      refine fV (by rfl) (by intro w1 hw1 hk1; go_simp) ?_
      simp only [Act.put, sA, sB, sC]
      refine fV (by rfl) (by intro w1 hw1 hk1; go_simp) ?_
      simp only [Act.put, sA, sB, sC]
      refine fV (by rfl) (by intro w1 hw1 hk1; go_simp) ?_
      simp only [Act.put, sA, sB, sC]
      refine fV (by rfl) (by intro w1 hw1 hk1; obtain ⟨-, -, -, c3, c4, c5⟩ := boxc6 (hw1.heap HXa.out); go_simp) ?_
      simp only [Act.put, sA, sB, sC]
      refine fV (by rfl) (by intro w1 hw1 hk1; go_simp) ?_
      simp only [Act.put, sA, sB, sC]
      refine fV (by rfl) (by intro w1 hw1 hk1; obtain ⟨-, -, -, c3, c4, c5⟩ := boxc6 (hw1.heap HXb.out); go_simp) ?_
      simp only [Act.put, sA, sB, sC]
      refine fC (by rfl) (by intro w1 hw1 hk1; exact HC2.out _ _ _ (HPa2.out.bel (HBW.out.trans hw1)) (HPb2.out.bel (HBW.out.trans hw1))) (by intro; go_simp) ?_
      simp only [Act.put, sA, sB, sC]
      refine flow_is (by intro w1 hw1 hk1; refine want (by rfl) (gives_val ?_); go_simp; simp [HN2.out]) ?_
      simp only [Act.put, sA, sB, sC]
      refine fV (by rfl) (by intro w1 hw1 hk1; go_simp) ?_
      simp only [Act.put, sA, sB, sC]
      intro w1 hw1 hk1
      have HB3 := Lib.hid hw1
      clear hw1
      go_wp2
      go_ret
      exact ⟨_, rfl, HBW.out.trans HB3.out, rfl⟩
  · have HN1 := Lib.hid h1
    rw [show decide (C1 = 0 ∧ C2 = 0) = false by simp [h1]]
    clear h1
    obtain ⟨sa1, pa1, ka1, ca1, qa1, ja1, da1, sa2, pa2, ka2, ca2, qa2, ja2, da2, rfl, ha1, ha2⟩ := ha.parts
    have HPa := Lib.hid ha
    have HPa1 := Lib.hid ha1
    have HPa2 := Lib.hid ha2
    clear ha ha1 ha2
    obtain ⟨sb1, pb1, kb1, cb1, qb1, jb1, db1, sb2, pb2, kb2, cb2, qb2, jb2, db2, rfl, hb1, hb2⟩ := hb.parts
    have HPb := Lib.hid hb
    have HPb1 := Lib.hid hb1
    have HPb2 := Lib.hid hb2
    clear hb hb1 hb2
    go_enter Tryz.func34, Tryz.ntmps34
    go_upto_region 1 with fail
    obtain ⟨hXa, hXb, hbw⟩ := boxes2 w (.cells #[.bool sa1, .slice pa1 ka1 ca1, .slice qa1 ja1 da1, .bool sa2, .slice pa2 ka2 ca2, .slice qa2 ja2 da2] 28) (.cells #[.bool sb1, .slice pb1 kb1 cb1, .slice qb1 jb1 db1, .bool sb2, .slice pb2 kb2 cb2, .slice qb2 jb2 db2] 28)
    obtain ⟨W, hW⟩ : ∃ W, (w.alloc (.cells #[.bool sa1, .slice pa1 ka1 ca1, .slice qa1 ja1 da1, .bool sa2, .slice pa2 ka2 ca2, .slice qa2 ja2 da2] 28)).alloc (.cells #[.bool sb1, .slice pb1 kb1 cb1, .slice qb1 jb1 db1, .bool sb2, .slice pb2 kb2 cb2, .slice qb2 jb2 db2] 28) = W := ⟨_, rfl⟩
    rw [hW] at hXa hXb hbw ⊢
    obtain ⟨Xa, eXa⟩ : ∃ X, w.heap.size = X := ⟨_, rfl⟩
    obtain ⟨Xb, eXb⟩ : ∃ X, Xa + 1 = X := ⟨_, rfl⟩
    rw [eXa, eXb]
    rw [eXa] at hXa hXb
    rw [eXb] at hXb
    have HXa := Lib.hid hXa
    have HXb := Lib.hid hXb
    have HBW := Lib.hid hbw
    have HGEXa : Hid (w.heap.size ≤ Xa) := by unfold Hid; omega
    have HGEXb : Hid (w.heap.size ≤ Xb) := by unfold Hid; omega
    have HLT : Hid (Xa < Xb) := by unfold Hid; omega
    clear hW hbw hXa hXb eXa eXb
    refine line_region 14 [[], [0], [], [2], [1, 3], [4], [5], [6], [6, 7], [6], [6, 9], [6, 8, 10], [6, 11], [6, 12]] [.is (.pointer (some ⟨Xa, 0, none⟩)), .is (.agg #[.bool sa1, .slice pa1 ka1 ca1, .slice qa1 ja1 da1]), .is (.pointer (some ⟨Xb, 0, none⟩)), .is (.agg #[.bool sb1, .slice pb1 kb1 cb1, .slice qb1 jb1 db1]), .is (.int .i64 C1), .is (.bool false), .is (.bool false), .is undef, .is undef, .is undef, .is undef, .is undef, .is undef, .is (.bool false)] rfl rfl (by decide) (by simp only [Steady]) ?_
    simp only [List.take_succ_cons, List.take_zero, List.drop_succ_cons, List.drop_zero]
    refine fV (by rfl) (by intro w1 hw1 hk1; go_simp) ?_
    simp only [Act.put, sA, sB, sC]
    refine fV (by rfl) (by intro w1 hw1 hk1; obtain ⟨c0, c1, c2, -, -, -⟩ := boxc6 (hw1.heap HXa.out); go_simp) ?_
    simp only [Act.put, sA, sB, sC]
    refine fV (by rfl) (by intro w1 hw1 hk1; go_simp) ?_
    simp only [Act.put, sA, sB, sC]
    refine fV (by rfl) (by intro w1 hw1 hk1; obtain ⟨c0, c1, c2, -, -, -⟩ := boxc6 (hw1.heap HXb.out); go_simp) ?_
    simp only [Act.put, sA, sB, sC]
    refine fC (by rfl) (by intro w1 hw1 hk1; exact HC1.out _ _ _ (HPa1.out.bel (HBW.out.trans hw1)) (HPb1.out.bel (HBW.out.trans hw1))) (by intro; go_simp) ?_
    simp only [Act.put, sA, sB, sC]
    refine flow_is (by intro w1 hw1 hk1; refine want (by rfl) (gives_val ?_); go_simp; simp [HN1.out]) ?_
    simp only [Act.put, sA, sB, sC]
    refine fV (by rfl) (by intro w1 hw1 hk1; go_simp) ?_
    simp only [Act.put, sA, sB, sC]
    refine flow_is (fun w1 hw1 hk1 => wantnot (fun h => Bool.noConfusion (show false = true from h)) rfl) ?_
    simp only [Act.put, sA, sB, sC]
    refine flow_is (fun w1 hw1 hk1 => wantnot (fun h => Bool.noConfusion (show false = true from h)) rfl) ?_
    simp only [Act.put, sA, sB, sC]
    refine flow_is (fun w1 hw1 hk1 => wantnot (fun h => Bool.noConfusion (show false = true from h)) rfl) ?_
    simp only [Act.put, sA, sB, sC]
    refine flow_is (fun w1 hw1 hk1 => wantnot (fun h => Bool.noConfusion (show false = true from h)) rfl) ?_
    simp only [Act.put, sA, sB, sC]
    refine flow_is (fun w1 hw1 hk1 => wantnot (fun h => Bool.noConfusion (show false = true from h)) rfl) ?_
    simp only [Act.put, sA, sB, sC]
    refine flow_is (fun w1 hw1 hk1 => wantnot (fun h => Bool.noConfusion (show false = true from h)) rfl) ?_
    simp only [Act.put, sA, sB, sC]
    refine fV (by rfl) (by intro w1 hw1 hk1; go_simp) ?_
    simp only [Act.put, sA, sB, sC]
    intro w1 hw1 hk1
    have HB3 := Lib.hid hw1
    clear hw1
    go_wp2
    go_ret
    exact ⟨_, rfl, HBW.out.trans HB3.out, rfl⟩
end Go.Proofs.YtafmfnpjhhaikaaGreatDoor
