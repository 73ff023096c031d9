/-
  gessolaw06.PtNear (printed by gen_la.py).
-/
import Derived.Test.YtafmfnpjhhaikaaGreatDoorZaz
import Derived.Test.YtafmfnpjhhaikaaGreatDoorZbb
namespace Go.Proofs.YtafmfnpjhhaikaaGreatDoor
open Go.RowKit Go.Shelf

set_option maxHeartbeats 4000000 in
set_option maxRecDepth 100000 in
theorem ptNear_fair {w : World} (p a b : Rp) (t : Nat) (HT : t < 256) {xp yp : Rat} {xa ya : Rat} {xb yb : Rat} (hp : PS 6 w (.agg p.row.toArray) xp yp) (ha : PS 6 w (.agg a.row.toArray) xa ya) (hb : PS 6 w (.agg b.row.toArray) xb yb) (HFAIR : [p, a, b].all (Rp.ok 6) = true) : Calls Tryz.prog 6 #[.agg (p.row ++ a.row ++ b.row).toArray, .int .u8 (t : Nat)] w (Makes w fun v _ => v = .bool true) := by
  obtain ⟨sp1, pp1, kp1, cp1, qp1, jp1, dp1, sp2, pp2, kp2, cp2, qp2, jp2, dp2⟩ := p
  obtain ⟨sa1, pa1, ka1, ca1, qa1, ja1, da1, sa2, pa2, ka2, ca2, qa2, ja2, da2⟩ := a
  obtain ⟨sb1, pb1, kb1, cb1, qb1, jb1, db1, sb2, pb2, kb2, cb2, qb2, jb2, db2⟩ := b
  replace hp : PS 6 w (.agg #[.bool sp1, .slice pp1 kp1 cp1, .slice qp1 jp1 dp1, .bool sp2, .slice pp2 kp2 cp2, .slice qp2 jp2 dp2]) xp yp := hp
  replace ha : PS 6 w (.agg #[.bool sa1, .slice pa1 ka1 ca1, .slice qa1 ja1 da1, .bool sa2, .slice pa2 ka2 ca2, .slice qa2 ja2 da2]) xa ya := ha
  replace hb : PS 6 w (.agg #[.bool sb1, .slice pb1 kb1 cb1, .slice qb1 jb1 db1, .bool sb2, .slice pb2 kb2 cb2, .slice qb2 jb2 db2]) xb yb := hb
  change Calls _ _ #[.agg #[.bool sp1, .slice pp1 kp1 cp1, .slice qp1 jp1 dp1, .bool sp2, .slice pp2 kp2 cp2, .slice qp2 jp2 dp2, .bool sa1, .slice pa1 ka1 ca1, .slice qa1 ja1 da1, .bool sa2, .slice pa2 ka2 ca2, .slice qa2 ja2 da2, .bool sb1, .slice pb1 kb1 cb1, .slice qb1 jb1 db1, .bool sb2, .slice pb2 kb2 cb2, .slice qb2 jb2 db2], _] _ _
  have HPp := Lib.hid hp
  have HPp1 := Lib.hid hp.split.1
  have HPp2 := Lib.hid hp.split.2
  clear hp
  have HPa := Lib.hid ha
  have HPa1 := Lib.hid ha.split.1
  have HPa2 := Lib.hid ha.split.2
  clear ha
  have HPb := Lib.hid hb
  have HPb1 := Lib.hid hb.split.1
  have HPb2 := Lib.hid hb.split.2
  clear hb
  have HC2_4 : Hid (∀ X u0, RpSl [⟨sp1, pp1, kp1, cp1, qp1, jp1, dp1, sp2, pp2, kp2, cp2, qp2, jp2, dp2⟩, ⟨sa1, pa1, ka1, ca1, qa1, ja1, da1, sa2, pa2, ka2, ca2, qa2, ja2, da2⟩, ⟨sb1, pb1, kb1, cb1, qb1, jb1, db1, sb2, pb2, kb2, cb2, qb2, jb2, db2⟩] u0 X → Calls Tryz.prog 12 #[u0] X (Makes X fun v _ => v = .bool true)) := fun X u0 h0 => au_fair h0 (by simp) HFAIR
  obtain ⟨R1, hR1⟩ : ∃ Z, mkRat (t : Nat) 255 = Z := ⟨_, rfl⟩
  have HC4_2 : Hid (∀ X, Calls Tryz.prog 45 #[.int .i64 (t : Nat), .int .i64 255] X (Makes X fun v w => RN 1 w v R1)) := fun X => by subst hR1; exact au_rof (p := (t : Nat)) (q := 255) (by omega) (by omega) (by decide) (by decide) X
  obtain ⟨R2, hR2⟩ : ∃ Z, xa + (xb - xa) * R1 = Z := ⟨_, rfl⟩
  obtain ⟨R3, hR3⟩ : ∃ Z, ya + (yb - ya) * R1 = Z := ⟨_, rfl⟩
  have HC5_3 : Hid (∀ X u0 u1 u2, PS 6 X u0 xa ya → PS 6 X u1 xb yb → RN 1 X u2 R1 → Calls Tryz.prog 27 #[u0, u1, u2] X (Makes X fun v w => PN 21 w v R2 R3)) := fun X u0 u1 u2 h0 h1 h2 => by subst hR2 hR3; exact au_mix (i := 6) (j := 6) (m := 1) h0 h1 (h2.rs (by decide)) (by decide)
  obtain ⟨R4, hR4⟩ : ∃ Z, segR xp yp xa ya xb yb = Z := ⟨_, rfl⟩
  have HC6_3 : Hid (∀ X u0 u1 u2, PS 6 X u0 xp yp → PS 6 X u1 xa ya → PS 6 X u2 xb yb → Calls Tryz.prog 41 #[u0, u1, u2] X (Makes X fun v w => RN 540 w v R4)) := fun X u0 u1 u2 h0 h1 h2 => by subst hR4; exact au_toSeg (i := 6) h0 h1 h2 (by decide)
  obtain ⟨R5, hR5⟩ : ∃ Z, farR xp yp R2 R3 = Z := ⟨_, rfl⟩
  have HC7_3 : Hid (∀ X u0 u1, PS 6 X u0 xp yp → PN 21 X u1 R2 R3 → Calls Tryz.prog 39 #[u0, u1] X (Makes X fun v w => RN 113 w v R5)) := fun X u0 u1 h0 h1 => by subst hR5; exact au_far (i := 6) (j := 21) h0 (h1.ps (by decide)) (by decide)
  obtain ⟨C1, hC1⟩ : ∃ Z, cmpR R4 R5 = Z := ⟨_, rfl⟩
  have HC7_4 : Hid (∀ X u0 u1, RN 540 X u0 R4 → RN 113 X u1 R5 → Calls Tryz.prog 44 #[u0, u1] X (Makes X fun v _ => v = .int .i64 C1)) := fun X u0 u1 h0 h1 => by subst hC1; exact mk_rcmp (i := 540) (j := 113) (h0.rs (by decide)) (h1.rs (by decide)) (by decide)
  obtain ⟨C2, hC2⟩ : ∃ Z, cmpR R4 0 = Z := ⟨_, rfl⟩
  have HC7_8 : Hid (∀ X u0, RN 540 X u0 R4 → Calls Tryz.prog 46 #[u0] X (Makes X fun v _ => v = .int .i64 C2)) := fun X u0 h0 => by subst hC2; exact mk_rsign ((h0.rs (by decide))).1
  obtain ⟨R6, hR6⟩ : ∃ Z, segR R2 R3 xa ya xb yb = Z := ⟨_, rfl⟩
  have HC7_15 : Hid (∀ X u0 u1 u2, PN 21 X u0 R2 R3 → PS 6 X u1 xa ya → PS 6 X u2 xb yb → Calls Tryz.prog 41 #[u0, u1, u2] X (Makes X fun v w => RN 1740 w v R6)) := fun X u0 u1 u2 h0 h1 h2 => by subst hR6; exact au_toSeg (i := 21) (h0.ps (by decide)) (h1.mono (by decide)) (h2.mono (by decide)) (by decide)
  obtain ⟨C3, hC3⟩ : ∃ Z, cmpR R6 0 = Z := ⟨_, rfl⟩
  have HC7_16 : Hid (∀ X u0, RN 1740 X u0 R6 → Calls Tryz.prog 46 #[u0] X (Makes X fun v _ => v = .int .i64 C3)) := fun X u0 h0 => by subst hC3; exact mk_rsign ((h0.rs (by decide))).1
  obtain ⟨R7, hR7⟩ : ∃ Z, segR xp yp xb yb xa ya = Z := ⟨_, rfl⟩
  have HC7_24 : Hid (∀ X u0 u1 u2, PS 6 X u0 xp yp → PS 6 X u1 xb yb → PS 6 X u2 xa ya → Calls Tryz.prog 41 #[u0, u1, u2] X (Makes X fun v w => RN 540 w v R7)) := fun X u0 u1 u2 h0 h1 h2 => by subst hR7; exact au_toSeg (i := 6) h0 h1 h2 (by decide)
  obtain ⟨C4, hC4⟩ : ∃ Z, cmpR R4 R7 = Z := ⟨_, rfl⟩
  have HC7_25 : Hid (∀ X u0 u1, RN 540 X u0 R4 → RN 540 X u1 R7 → Calls Tryz.prog 44 #[u0, u1] X (Makes X fun v _ => v = .int .i64 C4)) := fun X u0 u1 h0 h1 => by subst hC4; exact mk_rcmp (i := 540) (j := 540) (h0.rs (by decide)) (h1.rs (by decide)) (by decide)
  obtain ⟨C5, hC5⟩ : ∃ Z, cmpR R4 0 = Z := ⟨_, rfl⟩
  have HC9_1 : Hid (∀ X u0, RN 540 X u0 R4 → Calls Tryz.prog 46 #[u0] X (Makes X fun v _ => v = .int .i64 C5)) := fun X u0 h0 => by subst hC5; exact mk_rsign ((h0.rs (by decide))).1
  obtain ⟨C6, hC6⟩ : ∃ Z, cmpR ((xb - xa) * (yp - ya) - (yb - ya) * (xp - xa)) 0 = Z := ⟨_, rfl⟩
  have HC10_3 : Hid (∀ X u0 u1 u2, PS 6 X u0 xa ya → PS 6 X u1 xb yb → PS 6 X u2 xp yp → Calls Tryz.prog 37 #[u0, u1, u2] X (Makes X fun v _ => v = .int .i64 C6)) := fun X u0 u1 u2 h0 h1 h2 => by subst hC6; exact mk_orient (i := 6) h0 h1 h2 (by decide)
  obtain ⟨R8, hR8⟩ : ∃ Z, xp - xa = Z := ⟨_, rfl⟩
  obtain ⟨R9, hR9⟩ : ∃ Z, yp - ya = Z := ⟨_, rfl⟩
  have HC10_8 : Hid (∀ X u0 u1, PS 6 X u0 xp yp → PS 6 X u1 xa ya → Calls Tryz.prog 23 #[u0, u1] X (Makes X fun v w => PN 13 w v R8 R9)) := fun X u0 u1 h0 h1 => by subst hR8 hR9; exact au_psub (i := 6) (j := 6) h0 h1 (by decide)
  obtain ⟨R10, hR10⟩ : ∃ Z, xp - xb = Z := ⟨_, rfl⟩
  obtain ⟨R11, hR11⟩ : ∃ Z, yp - yb = Z := ⟨_, rfl⟩
  have HC10_11 : Hid (∀ X u0 u1, PS 6 X u0 xp yp → PS 6 X u1 xb yb → Calls Tryz.prog 23 #[u0, u1] X (Makes X fun v w => PN 13 w v R10 R11)) := fun X u0 u1 h0 h1 => by subst hR10 hR11; exact au_psub (i := 6) (j := 6) h0 h1 (by decide)
  obtain ⟨R12, hR12⟩ : ∃ Z, R8 * R10 + R9 * R11 = Z := ⟨_, rfl⟩
  have HC10_12 : Hid (∀ X u0 u1, PN 13 X u0 R8 R9 → PN 13 X u1 R10 R11 → Calls Tryz.prog 30 #[u0, u1] X (Makes X fun v w => RN 53 w v R12)) := fun X u0 u1 h0 h1 => by subst hR12; exact au_dot (i := 13) (j := 13) (h0.ps (by decide)) (h1.ps (by decide)) (by decide)
  obtain ⟨C7, hC7⟩ : ∃ Z, cmpR R12 0 = Z := ⟨_, rfl⟩
  have HC10_13 : Hid (∀ X u0, RN 53 X u0 R12 → Calls Tryz.prog 46 #[u0] X (Makes X fun v _ => v = .int .i64 C7)) := fun X u0 h0 => by subst hC7; exact mk_rsign ((h0.rs (by decide))).1
  have HC10_17 : Hid (∀ X, Calls Tryz.prog 14 #[] X (Makes X fun v _ => v = .bool true)) := fun X => wakes06_any X
  obtain ⟨C8, hC8⟩ : ∃ Z, cmpR ((xb - xa) * (yp - ya) - (yb - ya) * (xp - xa)) 0 = Z := ⟨_, rfl⟩
  have HC11_3 : Hid (∀ X u0 u1 u2, PS 6 X u0 xa ya → PS 6 X u1 xb yb → PS 6 X u2 xp yp → Calls Tryz.prog 37 #[u0, u1, u2] X (Makes X fun v _ => v = .int .i64 C8)) := fun X u0 u1 u2 h0 h1 h2 => by subst hC8; exact mk_orient (i := 6) h0 h1 h2 (by decide)
  have HC11_22 : Hid (∀ X, Calls Tryz.prog 14 #[] X (Makes X fun v _ => v = .bool true)) := fun X => wakes06_any X
  obtain ⟨R13, hR13⟩ : ∃ Z, xp - xa = Z := ⟨_, rfl⟩
  obtain ⟨R14, hR14⟩ : ∃ Z, yp - ya = Z := ⟨_, rfl⟩
  have HC11_8 : Hid (∀ X u0 u1, PS 6 X u0 xp yp → PS 6 X u1 xa ya → Calls Tryz.prog 23 #[u0, u1] X (Makes X fun v w => PN 13 w v R13 R14)) := fun X u0 u1 h0 h1 => by subst hR13 hR14; exact au_psub (i := 6) (j := 6) h0 h1 (by decide)
  obtain ⟨R15, hR15⟩ : ∃ Z, xp - xb = Z := ⟨_, rfl⟩
  obtain ⟨R16, hR16⟩ : ∃ Z, yp - yb = Z := ⟨_, rfl⟩
  have HC11_11 : Hid (∀ X u0 u1, PS 6 X u0 xp yp → PS 6 X u1 xb yb → Calls Tryz.prog 23 #[u0, u1] X (Makes X fun v w => PN 13 w v R15 R16)) := fun X u0 u1 h0 h1 => by subst hR15 hR16; exact au_psub (i := 6) (j := 6) h0 h1 (by decide)
  obtain ⟨R17, hR17⟩ : ∃ Z, R13 * R15 + R14 * R16 = Z := ⟨_, rfl⟩
  have HC11_12 : Hid (∀ X u0 u1, PN 13 X u0 R13 R14 → PN 13 X u1 R15 R16 → Calls Tryz.prog 30 #[u0, u1] X (Makes X fun v w => RN 53 w v R17)) := fun X u0 u1 h0 h1 => by subst hR17; exact au_dot (i := 13) (j := 13) (h0.ps (by decide)) (h1.ps (by decide)) (by decide)
  obtain ⟨C9, hC9⟩ : ∃ Z, cmpR R17 0 = Z := ⟨_, rfl⟩
  have HC11_13 : Hid (∀ X u0, RN 53 X u0 R17 → Calls Tryz.prog 46 #[u0] X (Makes X fun v _ => v = .int .i64 C9)) := fun X u0 h0 => by subst hC9; exact mk_rsign ((h0.rs (by decide))).1
  obtain ⟨C10, hC10⟩ : ∃ Z, decide (xa = xb ∧ ya = yb) = Z := ⟨_, rfl⟩
  have HC11_19 : Hid (∀ X u0 u1, PS 6 X u0 xa ya → PS 6 X u1 xb yb → Calls Tryz.prog 34 #[u0, u1] X (Makes X fun v _ => v = .bool C10)) := fun X u0 u1 h0 h1 => by subst hC10; exact mk_same (i := 6) (j := 6) h0 h1 (by decide)
  have HL7_5 : Hid (¬ C1 > 0) := by unfold Hid; subst hC1 hR5 hR4 hR3 hR2 hR1; exact near1 _ _ _ _ _ _ _ (byte_part HT).1 (byte_part HT).2
  have HL7_9 : Hid (¬ C2 < 0) := by unfold Hid; subst hC2 hR4; apply near2
  have HL7_17 : Hid (¬ C3 ≠ 0) := by unfold Hid; subst hC3 hR6 hR3 hR2 hR1; exact fun h => h (near3 _ _ _ _ _ (byte_part HT).1 (byte_part HT).2)
  have HL7_26 : Hid (¬ C4 ≠ 0) := by unfold Hid; subst hC4 hR7 hR4; exact fun h => h (cmpR_eq.2 (near4 _ _ _ _ _ _))
  have HCASE : Hid ((C5 = 0 ∧ C6 = 0 ∧ C7 ≤ 0) ∨ (¬ C5 = 0 ∧ C8 ≠ 0) ∨ (¬ C5 = 0 ∧ ¬ C8 ≠ 0 ∧ C9 > 0) ∨ (¬ C5 = 0 ∧ ¬ C8 ≠ 0 ∧ ¬ C9 > 0 ∧ C10 = true)) := by unfold Hid; subst hC10 hC9 hR17 hR16 hR15 hR14 hR13 hC8 hC7 hR12 hR11 hR10 hR9 hR8 hC6 hC5 hR4; apply near_cases
  clear hR1 hR2 hR3 hR4 hR5 hC1 hC2 hR6 hC3 hR7 hC4 hC5 hC6 hR8 hR9 hR10 hR11 hR12 hC7 hC8 hR13 hR14 hR15 hR16 hR17 hC9 hC10
  have HTT : Hid (t < 256) := HT
  clear HT
  go_enter Tryz.func6, Tryz.ntmps6
  go_upto_region 1 with fail
  obtain ⟨hXL, hbw⟩ := boxes1 w (.cells #[.bool sp1, .slice pp1 kp1 cp1, .slice qp1 jp1 dp1, .bool sp2, .slice pp2 kp2 cp2, .slice qp2 jp2 dp2, .bool sa1, .slice pa1 ka1 ca1, .slice qa1 ja1 da1, .bool sa2, .slice pa2 ka2 ca2, .slice qa2 ja2 da2, .bool sb1, .slice pb1 kb1 cb1, .slice qb1 jb1 db1, .bool sb2, .slice pb2 kb2 cb2, .slice qb2 jb2 db2] 65)
  obtain ⟨W, hW⟩ : ∃ W, w.alloc (.cells #[.bool sp1, .slice pp1 kp1 cp1, .slice qp1 jp1 dp1, .bool sp2, .slice pp2 kp2 cp2, .slice qp2 jp2 dp2, .bool sa1, .slice pa1 ka1 ca1, .slice qa1 ja1 da1, .bool sa2, .slice pa2 ka2 ca2, .slice qa2 ja2 da2, .bool sb1, .slice pb1 kb1 cb1, .slice qb1 jb1 db1, .bool sb2, .slice pb2 kb2 cb2, .slice qb2 jb2 db2] 65) = W := ⟨_, rfl⟩
  rw [hW] at hXL hbw ⊢
  obtain ⟨XL, eXL⟩ : ∃ X, w.heap.size = X := ⟨_, rfl⟩
  rw [eXL]
  rw [eXL] at hXL
  have HXL := Lib.hid hXL
  have HBW := Lib.hid hbw
  have HGEXL : Hid (w.heap.size ≤ XL) := by unfold Hid; omega
  clear hW hbw hXL eXL
  refine region_flowT 9 [2, 3, 4, 5] [6, 7, 8] [[], [0], [], [2], [], [4], [], [], []] [.is (.pointer (some ⟨XL, 0, none⟩)), .is (.agg #[.bool sp1, .slice pp1 kp1 cp1, .slice qp1 jp1 dp1, .bool sp2, .slice pp2 kp2 cp2, .slice qp2 jp2 dp2]), .is (.pointer (some ⟨XL, 6, none⟩)), .is (.agg #[.bool sa1, .slice pa1 ka1 ca1, .slice qa1 ja1 da1, .bool sa2, .slice pa2 ka2 ca2, .slice qa2 ja2 da2]), .is (.pointer (some ⟨XL, 12, none⟩)), .is (.agg #[.bool sb1, .slice pb1 kb1 cb1, .slice qb1 jb1 db1, .bool sb2, .slice pb2 kb2 cb2, .slice qb2 jb2 db2]), .has (fun v w => NewBox W 28 #[.bool false, .slice none 0 0, .slice none 0 0, .bool false, .slice none 0 0, .slice none 0 0] v w), .has (fun v w => NewBox W 28 #[.bool false, .slice none 0 0, .slice none 0 0, .bool false, .slice none 0 0, .slice none 0 0] v w), .has (fun v w => NewBox W 28 #[.bool false, .slice none 0 0, .slice none 0 0, .bool false, .slice none 0 0, .slice none 0 0] v w)] (by kernel_rfl) (by kernel_rfl) rfl (by intro j hj; simp only [List.mem_cons, List.not_mem_nil, or_false] at hj; rcases hj with rfl | rfl | rfl | rfl <;> exact ⟨_, rfl⟩) (by intro j hj; simp only [List.mem_cons, List.not_mem_nil, or_false] at hj; rcases hj with rfl | rfl | rfl <;> exact ⟨_, _, rfl, (fun e w => by go_simp; exact ⟨_, rfl, Nat.le_refl _⟩), rfl, NewBox.lies⟩) (by simp only [Steady]; exact ⟨fun _ _ _ h hb => h.bel hb, fun _ _ _ h hb => h.bel hb, fun _ _ _ h hb => h.bel hb, trivial⟩) ?_
  simp only [List.take_succ_cons, List.take_zero, List.drop_succ_cons, List.drop_zero]
  refine hV (by rfl) (by rfl) (by intro w1 hw1 hk1; go_simp) ?_
  simp only [Act.put, sA, sB, sC]
  refine hV (by rfl) (by rfl) (by intro w1 hw1 hk1; have c0 : w1.cell? ⟨XL, 0, none⟩ = some (.bool sp1) := (heap_cell (hw1.heap HXL.out) 0).trans rfl; have c1 : w1.cell? ⟨XL, 1, none⟩ = some (.slice pp1 kp1 cp1) := (heap_cell (hw1.heap HXL.out) 1).trans rfl; have c2 : w1.cell? ⟨XL, 2, none⟩ = some (.slice qp1 jp1 dp1) := (heap_cell (hw1.heap HXL.out) 2).trans rfl; have c3 : w1.cell? ⟨XL, 3, none⟩ = some (.bool sp2) := (heap_cell (hw1.heap HXL.out) 3).trans rfl; have c4 : w1.cell? ⟨XL, 4, none⟩ = some (.slice pp2 kp2 cp2) := (heap_cell (hw1.heap HXL.out) 4).trans rfl; have c5 : w1.cell? ⟨XL, 5, none⟩ = some (.slice qp2 jp2 dp2) := (heap_cell (hw1.heap HXL.out) 5).trans rfl; go_simp) ?_
  simp only [Act.put, sA, sB, sC]
  refine hR (by rfl) (by rfl) (by intro w2 hw2 hk1 w1 hw1; go_simp) ?_
  simp only [Act.put, sA, sB, sC]
  refine hR (by rfl) (by rfl) (by intro w2 hw2 hk1 w1 hw1; have c6 : w1.cell? ⟨XL, 6, none⟩ = some (.bool sa1) := (heap_cell (hw1.heap HXL.out) 6).trans rfl; have c7 : w1.cell? ⟨XL, 7, none⟩ = some (.slice pa1 ka1 ca1) := (heap_cell (hw1.heap HXL.out) 7).trans rfl; have c8 : w1.cell? ⟨XL, 8, none⟩ = some (.slice qa1 ja1 da1) := (heap_cell (hw1.heap HXL.out) 8).trans rfl; have c9 : w1.cell? ⟨XL, 9, none⟩ = some (.bool sa2) := (heap_cell (hw1.heap HXL.out) 9).trans rfl; have c10 : w1.cell? ⟨XL, 10, none⟩ = some (.slice pa2 ka2 ca2) := (heap_cell (hw1.heap HXL.out) 10).trans rfl; have c11 : w1.cell? ⟨XL, 11, none⟩ = some (.slice qa2 ja2 da2) := (heap_cell (hw1.heap HXL.out) 11).trans rfl; go_simp) ?_
  simp only [Act.put, sA, sB, sC]
  refine hR (by rfl) (by rfl) (by intro w2 hw2 hk1 w1 hw1; go_simp) ?_
  simp only [Act.put, sA, sB, sC]
  refine hR (by rfl) (by rfl) (by intro w2 hw2 hk1 w1 hw1; have c12 : w1.cell? ⟨XL, 12, none⟩ = some (.bool sb1) := (heap_cell (hw1.heap HXL.out) 12).trans rfl; have c13 : w1.cell? ⟨XL, 13, none⟩ = some (.slice pb1 kb1 cb1) := (heap_cell (hw1.heap HXL.out) 13).trans rfl; have c14 : w1.cell? ⟨XL, 14, none⟩ = some (.slice qb1 jb1 db1) := (heap_cell (hw1.heap HXL.out) 14).trans rfl; have c15 : w1.cell? ⟨XL, 15, none⟩ = some (.bool sb2) := (heap_cell (hw1.heap HXL.out) 15).trans rfl; have c16 : w1.cell? ⟨XL, 16, none⟩ = some (.slice pb2 kb2 cb2) := (heap_cell (hw1.heap HXL.out) 16).trans rfl; have c17 : w1.cell? ⟨XL, 17, none⟩ = some (.slice qb2 jb2 db2) := (heap_cell (hw1.heap HXL.out) 17).trans rfl; go_simp) ?_
  simp only [Act.put, sA, sB, sC]
  refine flowT_has (by intro w1 hw1 hk1; refine want (by rfl) (gives_new (c := .pointer (some ⟨w1.heap.size, 0, none⟩)) (w' := w1.alloc (.cells #[.bool false, .slice none 0 0, .slice none 0 0, .bool false, .slice none 0 0, .slice none 0 0] 28)) (by go_simp) ((Bel.refl w1).alloc _) ?_); exact NewBox.new hw1) (fun v6 => ?_)
  simp only [Act.put, sA, sB, sC]
  refine flowT_has (by intro w1 hw1 hk1; refine want (by rfl) (gives_new (c := .pointer (some ⟨w1.heap.size, 0, none⟩)) (w' := w1.alloc (.cells #[.bool false, .slice none 0 0, .slice none 0 0, .bool false, .slice none 0 0, .slice none 0 0] 28)) (by go_simp) ((Bel.refl w1).alloc _) ?_); exact NewBox.new hw1) (fun v7 => ?_)
  simp only [Act.put, sA, sB, sC]
  refine flowT_has (by intro w1 hw1 hk1; refine want (by rfl) (gives_new (c := .pointer (some ⟨w1.heap.size, 0, none⟩)) (w' := w1.alloc (.cells #[.bool false, .slice none 0 0, .slice none 0 0, .bool false, .slice none 0 0, .slice none 0 0] 28)) (by go_simp) ((Bel.refl w1).alloc _) ?_); exact NewBox.new hw1) (fun v8 => ?_)
  simp only [Act.put, sA, sB, sC]
  intro W1 hW1 hk1 hap
  obtain ⟨g8, g7, g6, -⟩ := hk1
  have hnn6 := g6
  have hnn7 := g7
  have hnn8 := g8
  have hne7_6 := hap.2.1.1
  have hne8_6 := hap.1.2.1
  have hne8_7 := hap.1.1
  clear g6 g7 g8
  obtain ⟨X1_6, rfl, hgeX1_6, hxX1_6⟩ := hnn6
  obtain ⟨X1_7, rfl, hgeX1_7, hxX1_7⟩ := hnn7
  obtain ⟨X1_8, rfl, hgeX1_8, hxX1_8⟩ := hnn8
  have hxe7_6 : X1_7 ≠ X1_6 := fun e => hne7_6 (by rw [e])
  clear hne7_6
  have hxe8_6 : X1_8 ≠ X1_6 := fun e => hne8_6 (by rw [e])
  clear hne8_6
  have hxe8_7 : X1_8 ≠ X1_7 := fun e => hne8_7 (by rw [e])
  clear hne8_7
  have hy0 := hxX1_6
  refine tail_store (setAll W1 X1_6 0 [.bool sp1, .slice pp1 kp1 cp1, .slice qp1 jp1 dp1, .bool sp2, .slice pp2 kp2 cp2, .slice qp2 jp2 dp2]) rfl (by rfl) ?_ (stoBel (hW1) hy0 rfl rfl hgeX1_6) ?_
  · have dd0 : (W1).cell? ⟨X1_6, 0, none⟩ = some (.bool false) := (heap_cell hy0 0).trans rfl; have ff0 := heap_frozen hy0 0; have dd1 : (W1).cell? ⟨X1_6, 1, none⟩ = some (.slice none 0 0) := (heap_cell hy0 1).trans rfl; have ff1 := heap_frozen hy0 1; have dd2 : (W1).cell? ⟨X1_6, 2, none⟩ = some (.slice none 0 0) := (heap_cell hy0 2).trans rfl; have ff2 := heap_frozen hy0 2; have dd3 : (W1).cell? ⟨X1_6, 3, none⟩ = some (.bool false) := (heap_cell hy0 3).trans rfl; have ff3 := heap_frozen hy0 3; have dd4 : (W1).cell? ⟨X1_6, 4, none⟩ = some (.slice none 0 0) := (heap_cell hy0 4).trans rfl; have ff4 := heap_frozen hy0 4; have dd5 : (W1).cell? ⟨X1_6, 5, none⟩ = some (.slice none 0 0) := (heap_cell hy0 5).trans rfl; have ff5 := heap_frozen hy0 5; simp only [setAll, Nat.reduceAdd] at *; go_simp
  clear hy0
  have ht0 := sto (w := W) (t := 28) [.bool sp1, .slice pp1 kp1 cp1, .slice qp1 jp1 dp1, .bool sp2, .slice pp2 kp2 cp2, .slice qp2 jp2 dp2] (hxX1_6) rfl rfl (hW1) hgeX1_6
  have hy1 := ht0.oth _ _ (hxe7_6) (hxX1_7)
  refine tail_store (setAll (setAll W1 X1_6 0 [.bool sp1, .slice pp1 kp1 cp1, .slice qp1 jp1 dp1, .bool sp2, .slice pp2 kp2 cp2, .slice qp2 jp2 dp2]) X1_7 0 [.bool sa1, .slice pa1 ka1 ca1, .slice qa1 ja1 da1, .bool sa2, .slice pa2 ka2 ca2, .slice qa2 ja2 da2]) rfl (by rfl) ?_ (stoBel (ht0.bel) hy1 rfl rfl hgeX1_7) ?_
  · have dd0 : (setAll W1 X1_6 0 [.bool sp1, .slice pp1 kp1 cp1, .slice qp1 jp1 dp1, .bool sp2, .slice pp2 kp2 cp2, .slice qp2 jp2 dp2]).cell? ⟨X1_7, 0, none⟩ = some (.bool false) := (heap_cell hy1 0).trans rfl; have ff0 := heap_frozen hy1 0; have dd1 : (setAll W1 X1_6 0 [.bool sp1, .slice pp1 kp1 cp1, .slice qp1 jp1 dp1, .bool sp2, .slice pp2 kp2 cp2, .slice qp2 jp2 dp2]).cell? ⟨X1_7, 1, none⟩ = some (.slice none 0 0) := (heap_cell hy1 1).trans rfl; have ff1 := heap_frozen hy1 1; have dd2 : (setAll W1 X1_6 0 [.bool sp1, .slice pp1 kp1 cp1, .slice qp1 jp1 dp1, .bool sp2, .slice pp2 kp2 cp2, .slice qp2 jp2 dp2]).cell? ⟨X1_7, 2, none⟩ = some (.slice none 0 0) := (heap_cell hy1 2).trans rfl; have ff2 := heap_frozen hy1 2; have dd3 : (setAll W1 X1_6 0 [.bool sp1, .slice pp1 kp1 cp1, .slice qp1 jp1 dp1, .bool sp2, .slice pp2 kp2 cp2, .slice qp2 jp2 dp2]).cell? ⟨X1_7, 3, none⟩ = some (.bool false) := (heap_cell hy1 3).trans rfl; have ff3 := heap_frozen hy1 3; have dd4 : (setAll W1 X1_6 0 [.bool sp1, .slice pp1 kp1 cp1, .slice qp1 jp1 dp1, .bool sp2, .slice pp2 kp2 cp2, .slice qp2 jp2 dp2]).cell? ⟨X1_7, 4, none⟩ = some (.slice none 0 0) := (heap_cell hy1 4).trans rfl; have ff4 := heap_frozen hy1 4; have dd5 : (setAll W1 X1_6 0 [.bool sp1, .slice pp1 kp1 cp1, .slice qp1 jp1 dp1, .bool sp2, .slice pp2 kp2 cp2, .slice qp2 jp2 dp2]).cell? ⟨X1_7, 5, none⟩ = some (.slice none 0 0) := (heap_cell hy1 5).trans rfl; have ff5 := heap_frozen hy1 5; simp only [setAll, Nat.reduceAdd] at *; go_simp
  clear hy1
  have ht1 := sto (w := W) (t := 28) [.bool sa1, .slice pa1 ka1 ca1, .slice qa1 ja1 da1, .bool sa2, .slice pa2 ka2 ca2, .slice qa2 ja2 da2] (ht0.oth _ _ (hxe7_6) (hxX1_7)) rfl rfl (ht0.bel) hgeX1_7
  have hy2 := ht1.oth _ _ (hxe8_7) (ht0.oth _ _ (hxe8_6) (hxX1_8))
  refine tail_store (setAll (setAll (setAll W1 X1_6 0 [.bool sp1, .slice pp1 kp1 cp1, .slice qp1 jp1 dp1, .bool sp2, .slice pp2 kp2 cp2, .slice qp2 jp2 dp2]) X1_7 0 [.bool sa1, .slice pa1 ka1 ca1, .slice qa1 ja1 da1, .bool sa2, .slice pa2 ka2 ca2, .slice qa2 ja2 da2]) X1_8 0 [.bool sb1, .slice pb1 kb1 cb1, .slice qb1 jb1 db1, .bool sb2, .slice pb2 kb2 cb2, .slice qb2 jb2 db2]) rfl (by rfl) ?_ (stoBel (ht1.bel) hy2 rfl rfl hgeX1_8) ?_
  · have dd0 : (setAll (setAll W1 X1_6 0 [.bool sp1, .slice pp1 kp1 cp1, .slice qp1 jp1 dp1, .bool sp2, .slice pp2 kp2 cp2, .slice qp2 jp2 dp2]) X1_7 0 [.bool sa1, .slice pa1 ka1 ca1, .slice qa1 ja1 da1, .bool sa2, .slice pa2 ka2 ca2, .slice qa2 ja2 da2]).cell? ⟨X1_8, 0, none⟩ = some (.bool false) := (heap_cell hy2 0).trans rfl; have ff0 := heap_frozen hy2 0; have dd1 : (setAll (setAll W1 X1_6 0 [.bool sp1, .slice pp1 kp1 cp1, .slice qp1 jp1 dp1, .bool sp2, .slice pp2 kp2 cp2, .slice qp2 jp2 dp2]) X1_7 0 [.bool sa1, .slice pa1 ka1 ca1, .slice qa1 ja1 da1, .bool sa2, .slice pa2 ka2 ca2, .slice qa2 ja2 da2]).cell? ⟨X1_8, 1, none⟩ = some (.slice none 0 0) := (heap_cell hy2 1).trans rfl; have ff1 := heap_frozen hy2 1; have dd2 : (setAll (setAll W1 X1_6 0 [.bool sp1, .slice pp1 kp1 cp1, .slice qp1 jp1 dp1, .bool sp2, .slice pp2 kp2 cp2, .slice qp2 jp2 dp2]) X1_7 0 [.bool sa1, .slice pa1 ka1 ca1, .slice qa1 ja1 da1, .bool sa2, .slice pa2 ka2 ca2, .slice qa2 ja2 da2]).cell? ⟨X1_8, 2, none⟩ = some (.slice none 0 0) := (heap_cell hy2 2).trans rfl; have ff2 := heap_frozen hy2 2; have dd3 : (setAll (setAll W1 X1_6 0 [.bool sp1, .slice pp1 kp1 cp1, .slice qp1 jp1 dp1, .bool sp2, .slice pp2 kp2 cp2, .slice qp2 jp2 dp2]) X1_7 0 [.bool sa1, .slice pa1 ka1 ca1, .slice qa1 ja1 da1, .bool sa2, .slice pa2 ka2 ca2, .slice qa2 ja2 da2]).cell? ⟨X1_8, 3, none⟩ = some (.bool false) := (heap_cell hy2 3).trans rfl; have ff3 := heap_frozen hy2 3; have dd4 : (setAll (setAll W1 X1_6 0 [.bool sp1, .slice pp1 kp1 cp1, .slice qp1 jp1 dp1, .bool sp2, .slice pp2 kp2 cp2, .slice qp2 jp2 dp2]) X1_7 0 [.bool sa1, .slice pa1 ka1 ca1, .slice qa1 ja1 da1, .bool sa2, .slice pa2 ka2 ca2, .slice qa2 ja2 da2]).cell? ⟨X1_8, 4, none⟩ = some (.slice none 0 0) := (heap_cell hy2 4).trans rfl; have ff4 := heap_frozen hy2 4; have dd5 : (setAll (setAll W1 X1_6 0 [.bool sp1, .slice pp1 kp1 cp1, .slice qp1 jp1 dp1, .bool sp2, .slice pp2 kp2 cp2, .slice qp2 jp2 dp2]) X1_7 0 [.bool sa1, .slice pa1 ka1 ca1, .slice qa1 ja1 da1, .bool sa2, .slice pa2 ka2 ca2, .slice qa2 ja2 da2]).cell? ⟨X1_8, 5, none⟩ = some (.slice none 0 0) := (heap_cell hy2 5).trans rfl; have ff5 := heap_frozen hy2 5; simp only [setAll, Nat.reduceAdd] at *; go_simp
  clear hy2
  have ht2 := sto (w := W) (t := 28) [.bool sb1, .slice pb1 kb1 cb1, .slice qb1 jb1 db1, .bool sb2, .slice pb2 kb2 cb2, .slice qb2 jb2 db2] (ht1.oth _ _ (hxe8_7) (ht0.oth _ _ (hxe8_6) (hxX1_8))) rfl rfl (ht1.bel) hgeX1_8
  obtain ⟨W2, hW2⟩ : ∃ W', setAll (setAll (setAll W1 X1_6 0 [.bool sp1, .slice pp1 kp1 cp1, .slice qp1 jp1 dp1, .bool sp2, .slice pp2 kp2 cp2, .slice qp2 jp2 dp2]) X1_7 0 [.bool sa1, .slice pa1 ka1 ca1, .slice qa1 ja1 da1, .bool sa2, .slice pa2 ka2 ca2, .slice qa2 ja2 da2]) X1_8 0 [.bool sb1, .slice pb1 kb1 cb1, .slice qb1 jb1 db1, .bool sb2, .slice pb2 kb2 cb2, .slice qb2 jb2 db2] = W' := ⟨_, rfl⟩
  rw [hW2]
  refine tail_end ?_
  go_upto_region 2 with fail
  have hb2 := ht2.bel
  rw [hW2] at hb2
  have HX1_6 := ht2.oth _ _ ((Ne.symm hxe8_6)) (ht1.oth _ _ ((Ne.symm hxe7_6)) (ht0.heap))
  rw [hW2] at HX1_6
  replace HX1_6 := Lib.hid HX1_6
  have HX1_7 := ht2.oth _ _ ((Ne.symm hxe8_7)) (ht1.heap)
  rw [hW2] at HX1_7
  replace HX1_7 := Lib.hid HX1_7
  have HX1_8 := ht2.heap
  rw [hW2] at HX1_8
  replace HX1_8 := Lib.hid HX1_8
  have hgwX1_6 : w.heap.size ≤ X1_6 := Nat.le_trans HBW.out.size hgeX1_6
  have hgwX1_7 : w.heap.size ≤ X1_7 := Nat.le_trans HBW.out.size hgeX1_7
  have hgwX1_8 : w.heap.size ≤ X1_8 := Nat.le_trans HBW.out.size hgeX1_8
  replace HBW := Lib.hid (HBW.out.trans hb2)
  have HBW_ := Lib.hid hb2
  clear hW1 hxX1_6 hxX1_7 hxX1_8 hgeX1_6 hgeX1_7 hgeX1_8 hxe7_6 hxe8_6 hxe8_7 hap hb2 hW2 ht0 ht1 ht2
  refine line_region 6 [[], [], [], [0, 1, 2], [3], [4]] [.is (.agg #[.bool sp1, .slice pp1 kp1 cp1, .slice qp1 jp1 dp1, .bool sp2, .slice pp2 kp2 cp2, .slice qp2 jp2 dp2]), .is (.agg #[.bool sa1, .slice pa1 ka1 ca1, .slice qa1 ja1 da1, .bool sa2, .slice pa2 ka2 ca2, .slice qa2 ja2 da2]), .is (.agg #[.bool sb1, .slice pb1 kb1 cb1, .slice qb1 jb1 db1, .bool sb2, .slice pb2 kb2 cb2, .slice qb2 jb2 db2]), .has (fun v w => RpSl [⟨sp1, pp1, kp1, cp1, qp1, jp1, dp1, sp2, pp2, kp2, cp2, qp2, jp2, dp2⟩, ⟨sa1, pa1, ka1, ca1, qa1, ja1, da1, sa2, pa2, ka2, ca2, qa2, ja2, da2⟩, ⟨sb1, pb1, kb1, cb1, qb1, jb1, db1, sb2, pb2, kb2, cb2, qb2, jb2, db2⟩] v w), .is (.bool true), .is (.bool false)] rfl rfl (by decide) (by simp only [Steady]; exact ⟨fun _ _ _ h hb => h.bel hb, trivial⟩) ?_
  simp only [List.take_succ_cons, List.take_zero, List.drop_succ_cons, List.drop_zero]
  refine fV (by rfl) (by intro w1 hw1 hk1; obtain ⟨c0, c1, c2, c3, c4, c5⟩ := boxc6 (hw1.heap HX1_6.out); go_simp) ?_
  simp only [Act.put, sA, sB, sC]
  refine fV (by rfl) (by intro w1 hw1 hk1; obtain ⟨c0, c1, c2, c3, c4, c5⟩ := boxc6 (hw1.heap HX1_7.out); go_simp) ?_
  simp only [Act.put, sA, sB, sC]
  refine fV (by rfl) (by intro w1 hw1 hk1; obtain ⟨c0, c1, c2, c3, c4, c5⟩ := boxc6 (hw1.heap HX1_8.out); go_simp) ?_
  simp only [Act.put, sA, sB, sC]
  refine flow_has (by intro w1 hw1 hk1; refine want (by rfl) (gives_new (c := .slice (some ⟨w1.heap.size, 0, none⟩) 3 3) (w' := w1.alloc (.cells #[.bool sp1, .slice pp1 kp1 cp1, .slice qp1 jp1 dp1, .bool sp2, .slice pp2 kp2 cp2, .slice qp2 jp2 dp2, .bool sa1, .slice pa1 ka1 ca1, .slice qa1 ja1 da1, .bool sa2, .slice pa2 ka2 ca2, .slice qa2 ja2 da2, .bool sb1, .slice pb1 kb1 cb1, .slice qb1 jb1 db1, .bool sb2, .slice pb2 kb2 cb2, .slice qb2 jb2 db2] 28)) (by go_simp) ((Bel.refl w1).alloc _) (RpSl.new [⟨sp1, pp1, kp1, cp1, qp1, jp1, dp1, sp2, pp2, kp2, cp2, qp2, jp2, dp2⟩, ⟨sa1, pa1, ka1, ca1, qa1, ja1, da1, sa2, pa2, ka2, ca2, qa2, ja2, da2⟩, ⟨sb1, pb1, kb1, cb1, qb1, jb1, db1, sb2, pb2, kb2, cb2, qb2, jb2, db2⟩] w1))) (fun v3 => ?_)
  simp only [Act.put, sA, sB, sC]
  refine fC (by rfl) (by intro w1 hw1 hk1; obtain ⟨g3, -⟩ := hk1; exact HC2_4.out _ _ g3) (by intro; go_simp) ?_
  simp only [Act.put, sA, sB, sC]
  refine fV (by rfl) (by intro w1 hw1 hk1; go_simp) ?_
  simp only [Act.put, sA, sB, sC]
  intro W3 hW3 hk1
  obtain ⟨g3, -⟩ := hk1
  have hb2 := hW3
  replace HBW := Lib.hid (HBW.out.trans hb2)
  replace HBW_ := Lib.hid (HBW_.out.trans hb2)
  have HBW2_ := Lib.hid hb2
  clear hW3 g3 hb2
  go_upto_region 4 with fail
  refine line_region 4 [[], [0], [1], []] [.is (.int .u8 (t : Nat)), .is (.int .i64 (t : Nat)), .has (fun v w => RN 1 w v R1), .has (fun v w => NewBox W3 26 #[.bool false, .slice none 0 0, .slice none 0 0] v w)] rfl rfl (by decide) (by simp only [Steady]; exact ⟨fun _ _ _ h hb => h.bel hb, fun _ _ _ h hb => h.bel hb, trivial⟩) ?_
  simp only [List.take_succ_cons, List.take_zero, List.drop_succ_cons, List.drop_zero]
  refine fV (by rfl) (by intro w1 hw1 hk1; go_simp) ?_
  simp only [Act.put, sA, sB, sC]
  refine flow_is (by intro w1 hw1 hk1; refine want (by rfl) (gives_val ?_); have q := HTT.out; go_simp; rw [IntWalk.i64_in _ (by omega)]) ?_
  simp only [Act.put, sA, sB, sC]
  refine fH (by rfl) (by intro w1 hw1 hk1; exact HC4_2.out _) (by intro; go_simp) (fun v2 => ?_)
  simp only [Act.put, sA, sB, sC]
  refine flow_has (by intro w1 hw1 hk1; refine want (by rfl) (gives_new (c := .pointer (some ⟨w1.heap.size, 0, none⟩)) (w' := w1.alloc (.cells #[.bool false, .slice none 0 0, .slice none 0 0] 26)) (by go_simp) ((Bel.refl w1).alloc _) ?_); exact NewBox.new hw1) (fun v3 => ?_)
  simp only [Act.put, sA, sB, sC]
  intro W4 hW4 hk1
  obtain ⟨g3, g2, -⟩ := hk1
  have hnn3 := g3
  clear g3
  obtain ⟨X4_3, rfl, hgeX4_3, hxX4_3⟩ := hnn3
  obtain ⟨sr2_4x1, pr2_4x1, kr2_4x1, cr2_4x1, qr2_4x1, jr2_4x1, dr2_4x1, rfl⟩ := g2.parts
  have hh0 := hxX4_3
  have dd0_0 : W4.cell? ⟨X4_3, 0, none⟩ = some (.bool false) := (heap_cell hh0 0).trans rfl
  have ff0_0 := heap_frozen hh0 0
  have dd0_1 : W4.cell? ⟨X4_3, 1, none⟩ = some (.slice none 0 0) := (heap_cell hh0 1).trans rfl
  have ff0_1 := heap_frozen hh0 1
  have dd0_2 : W4.cell? ⟨X4_3, 2, none⟩ = some (.slice none 0 0) := (heap_cell hh0 2).trans rfl
  have ff0_2 := heap_frozen hh0 2
  replace hh0 := Lib.hid hh0
  go_upto_region 5 with fail
  clear dd0_0 ff0_0 dd0_1 ff0_1 dd0_2 ff0_2 hh0
  have ht0 := sto (w := W3) (t := 26) [.bool sr2_4x1, .slice pr2_4x1 kr2_4x1 cr2_4x1, .slice qr2_4x1 jr2_4x1 dr2_4x1] (hxX4_3) rfl rfl (hW4) hgeX4_3
  obtain ⟨W5, hW5⟩ : ∃ W', setAll W4 X4_3 0 [.bool sr2_4x1, .slice pr2_4x1 kr2_4x1 cr2_4x1, .slice qr2_4x1 jr2_4x1 dr2_4x1] = W' := ⟨_, rfl⟩
  change Code.wp _ _ _ _ (setAll W4 X4_3 0 [.bool sr2_4x1, .slice pr2_4x1 kr2_4x1 cr2_4x1, .slice qr2_4x1 jr2_4x1 dr2_4x1])
  rw [hW5]
  have hb2 := ht0.bel
  rw [hW5] at hb2
  have Hg2_4 := g2.lim (ht0.lim)
  rw [hW5] at Hg2_4
  replace Hg2_4 := Lib.hid Hg2_4
  have HX4_3 := ht0.heap
  rw [hW5] at HX4_3
  replace HX4_3 := Lib.hid HX4_3
  have hgwX4_3 : w.heap.size ≤ X4_3 := Nat.le_trans HBW.out.size hgeX4_3
  replace HBW := Lib.hid (HBW.out.trans hb2)
  replace HBW_ := Lib.hid (HBW_.out.trans hb2)
  replace HBW2_ := Lib.hid (HBW2_.out.trans hb2)
  have HBW3_ := Lib.hid hb2
  clear hW4 g2 hxX4_3 hgeX4_3 hb2 hW5 ht0
  refine line_region 5 [[], [], [], [0, 1, 2], []] [.is (.agg #[.bool sa1, .slice pa1 ka1 ca1, .slice qa1 ja1 da1, .bool sa2, .slice pa2 ka2 ca2, .slice qa2 ja2 da2]), .is (.agg #[.bool sb1, .slice pb1 kb1 cb1, .slice qb1 jb1 db1, .bool sb2, .slice pb2 kb2 cb2, .slice qb2 jb2 db2]), .is (.agg #[.bool sr2_4x1, .slice pr2_4x1 kr2_4x1 cr2_4x1, .slice qr2_4x1 jr2_4x1 dr2_4x1]), .has (fun v w => PN 21 w v R2 R3), .has (fun v w => NewBox W5 28 #[.bool false, .slice none 0 0, .slice none 0 0, .bool false, .slice none 0 0, .slice none 0 0] v w)] rfl rfl (by decide) (by simp only [Steady]; exact ⟨fun _ _ _ h hb => h.bel hb, fun _ _ _ h hb => h.bel hb, trivial⟩) ?_
  simp only [List.take_succ_cons, List.take_zero, List.drop_succ_cons, List.drop_zero]
  refine fV (by rfl) (by intro w1 hw1 hk1; obtain ⟨c0, c1, c2, c3, c4, c5⟩ := boxc6 (hw1.heap (HBW2_.out.heap HX1_7.out)); go_simp) ?_
  simp only [Act.put, sA, sB, sC]
  refine fV (by rfl) (by intro w1 hw1 hk1; obtain ⟨c0, c1, c2, c3, c4, c5⟩ := boxc6 (hw1.heap (HBW2_.out.heap HX1_8.out)); go_simp) ?_
  simp only [Act.put, sA, sB, sC]
  refine fV (by rfl) (by intro w1 hw1 hk1; obtain ⟨c0, c1, c2⟩ := boxc3 (hw1.heap HX4_3.out); go_simp) ?_
  simp only [Act.put, sA, sB, sC]
  refine fH (by rfl) (by intro w1 hw1 hk1; exact HC5_3.out _ _ _ _ (HPa.out.bel (HBW.out.trans hw1)) (HPb.out.bel (HBW.out.trans hw1)) (Hg2_4.out.bel hw1)) (by intro; go_simp) (fun v3 => ?_)
  simp only [Act.put, sA, sB, sC]
  refine flow_has (by intro w1 hw1 hk1; refine want (by rfl) (gives_new (c := .pointer (some ⟨w1.heap.size, 0, none⟩)) (w' := w1.alloc (.cells #[.bool false, .slice none 0 0, .slice none 0 0, .bool false, .slice none 0 0, .slice none 0 0] 28)) (by go_simp) ((Bel.refl w1).alloc _) ?_); exact NewBox.new hw1) (fun v4 => ?_)
  simp only [Act.put, sA, sB, sC]
  intro W6 hW6 hk1
  obtain ⟨g4, g3, -⟩ := hk1
  have hnn4 := g4
  clear g4
  obtain ⟨X5_4, rfl, hgeX5_4, hxX5_4⟩ := hnn4
  obtain ⟨sr3_5x1, pr3_5x1, kr3_5x1, cr3_5x1, qr3_5x1, jr3_5x1, dr3_5x1, sr3_5x2, pr3_5x2, kr3_5x2, cr3_5x2, qr3_5x2, jr3_5x2, dr3_5x2, rfl, g3_1, g3_2⟩ := g3.parts
  have hh0 := hxX5_4
  have dd0_0 : W6.cell? ⟨X5_4, 0, none⟩ = some (.bool false) := (heap_cell hh0 0).trans rfl
  have ff0_0 := heap_frozen hh0 0
  have dd0_1 : W6.cell? ⟨X5_4, 1, none⟩ = some (.slice none 0 0) := (heap_cell hh0 1).trans rfl
  have ff0_1 := heap_frozen hh0 1
  have dd0_2 : W6.cell? ⟨X5_4, 2, none⟩ = some (.slice none 0 0) := (heap_cell hh0 2).trans rfl
  have ff0_2 := heap_frozen hh0 2
  have dd0_3 : W6.cell? ⟨X5_4, 3, none⟩ = some (.bool false) := (heap_cell hh0 3).trans rfl
  have ff0_3 := heap_frozen hh0 3
  have dd0_4 : W6.cell? ⟨X5_4, 4, none⟩ = some (.slice none 0 0) := (heap_cell hh0 4).trans rfl
  have ff0_4 := heap_frozen hh0 4
  have dd0_5 : W6.cell? ⟨X5_4, 5, none⟩ = some (.slice none 0 0) := (heap_cell hh0 5).trans rfl
  have ff0_5 := heap_frozen hh0 5
  replace hh0 := Lib.hid hh0
  go_upto_region 6 with fail
  clear dd0_0 ff0_0 dd0_1 ff0_1 dd0_2 ff0_2 dd0_3 ff0_3 dd0_4 ff0_4 dd0_5 ff0_5 hh0
  have ht0 := sto (w := W5) (t := 28) [.bool sr3_5x1, .slice pr3_5x1 kr3_5x1 cr3_5x1, .slice qr3_5x1 jr3_5x1 dr3_5x1, .bool sr3_5x2, .slice pr3_5x2 kr3_5x2 cr3_5x2, .slice qr3_5x2 jr3_5x2 dr3_5x2] (hxX5_4) rfl rfl (hW6) hgeX5_4
  obtain ⟨W7, hW7⟩ : ∃ W', setAll W6 X5_4 0 [.bool sr3_5x1, .slice pr3_5x1 kr3_5x1 cr3_5x1, .slice qr3_5x1 jr3_5x1 dr3_5x1, .bool sr3_5x2, .slice pr3_5x2 kr3_5x2 cr3_5x2, .slice qr3_5x2 jr3_5x2 dr3_5x2] = W' := ⟨_, rfl⟩
  change Code.wp _ _ _ _ (setAll W6 X5_4 0 [.bool sr3_5x1, .slice pr3_5x1 kr3_5x1 cr3_5x1, .slice qr3_5x1 jr3_5x1 dr3_5x1, .bool sr3_5x2, .slice pr3_5x2 kr3_5x2 cr3_5x2, .slice qr3_5x2 jr3_5x2 dr3_5x2])
  rw [hW7]
  have hb2 := ht0.bel
  rw [hW7] at hb2
  have Hg3_5 := g3.lim (ht0.lim)
  rw [hW7] at Hg3_5
  replace Hg3_5 := Lib.hid Hg3_5
  have Hg3_5_1 := g3_1.lim (ht0.lim)
  rw [hW7] at Hg3_5_1
  replace Hg3_5_1 := Lib.hid Hg3_5_1
  have Hg3_5_2 := g3_2.lim (ht0.lim)
  rw [hW7] at Hg3_5_2
  replace Hg3_5_2 := Lib.hid Hg3_5_2
  have HX5_4 := ht0.heap
  rw [hW7] at HX5_4
  replace HX5_4 := Lib.hid HX5_4
  have hgwX5_4 : w.heap.size ≤ X5_4 := Nat.le_trans HBW.out.size hgeX5_4
  replace HBW := Lib.hid (HBW.out.trans hb2)
  replace HBW_ := Lib.hid (HBW_.out.trans hb2)
  replace HBW2_ := Lib.hid (HBW2_.out.trans hb2)
  replace HBW3_ := Lib.hid (HBW3_.out.trans hb2)
  have HBW5_ := Lib.hid hb2
  clear hW6 g3 hxX5_4 g3_1 g3_2 hgeX5_4 hb2 hW7 ht0
  refine line_region 5 [[], [], [], [0, 1, 2], []] [.is (.agg #[.bool sp1, .slice pp1 kp1 cp1, .slice qp1 jp1 dp1, .bool sp2, .slice pp2 kp2 cp2, .slice qp2 jp2 dp2]), .is (.agg #[.bool sa1, .slice pa1 ka1 ca1, .slice qa1 ja1 da1, .bool sa2, .slice pa2 ka2 ca2, .slice qa2 ja2 da2]), .is (.agg #[.bool sb1, .slice pb1 kb1 cb1, .slice qb1 jb1 db1, .bool sb2, .slice pb2 kb2 cb2, .slice qb2 jb2 db2]), .has (fun v w => RN 540 w v R4), .has (fun v w => NewBox W7 26 #[.bool false, .slice none 0 0, .slice none 0 0] v w)] rfl rfl (by decide) (by simp only [Steady]; exact ⟨fun _ _ _ h hb => h.bel hb, fun _ _ _ h hb => h.bel hb, trivial⟩) ?_
  simp only [List.take_succ_cons, List.take_zero, List.drop_succ_cons, List.drop_zero]
  refine fV (by rfl) (by intro w1 hw1 hk1; obtain ⟨c0, c1, c2, c3, c4, c5⟩ := boxc6 (hw1.heap (HBW2_.out.heap HX1_6.out)); go_simp) ?_
  simp only [Act.put, sA, sB, sC]
  refine fV (by rfl) (by intro w1 hw1 hk1; obtain ⟨c0, c1, c2, c3, c4, c5⟩ := boxc6 (hw1.heap (HBW2_.out.heap HX1_7.out)); go_simp) ?_
  simp only [Act.put, sA, sB, sC]
  refine fV (by rfl) (by intro w1 hw1 hk1; obtain ⟨c0, c1, c2, c3, c4, c5⟩ := boxc6 (hw1.heap (HBW2_.out.heap HX1_8.out)); go_simp) ?_
  simp only [Act.put, sA, sB, sC]
  refine fH (by rfl) (by intro w1 hw1 hk1; exact HC6_3.out _ _ _ _ (HPp.out.bel (HBW.out.trans hw1)) (HPa.out.bel (HBW.out.trans hw1)) (HPb.out.bel (HBW.out.trans hw1))) (by intro; go_simp) (fun v3 => ?_)
  simp only [Act.put, sA, sB, sC]
  refine flow_has (by intro w1 hw1 hk1; refine want (by rfl) (gives_new (c := .pointer (some ⟨w1.heap.size, 0, none⟩)) (w' := w1.alloc (.cells #[.bool false, .slice none 0 0, .slice none 0 0] 26)) (by go_simp) ((Bel.refl w1).alloc _) ?_); exact NewBox.new hw1) (fun v4 => ?_)
  simp only [Act.put, sA, sB, sC]
  intro W8 hW8 hk1
  obtain ⟨g4, g3, -⟩ := hk1
  have hnn4 := g4
  clear g4
  obtain ⟨X6_4, rfl, hgeX6_4, hxX6_4⟩ := hnn4
  obtain ⟨sr3_6x1, pr3_6x1, kr3_6x1, cr3_6x1, qr3_6x1, jr3_6x1, dr3_6x1, rfl⟩ := g3.parts
  have hh0 := hxX6_4
  have dd0_0 : W8.cell? ⟨X6_4, 0, none⟩ = some (.bool false) := (heap_cell hh0 0).trans rfl
  have ff0_0 := heap_frozen hh0 0
  have dd0_1 : W8.cell? ⟨X6_4, 1, none⟩ = some (.slice none 0 0) := (heap_cell hh0 1).trans rfl
  have ff0_1 := heap_frozen hh0 1
  have dd0_2 : W8.cell? ⟨X6_4, 2, none⟩ = some (.slice none 0 0) := (heap_cell hh0 2).trans rfl
  have ff0_2 := heap_frozen hh0 2
  replace hh0 := Lib.hid hh0
  go_upto_region 7 with fail
  clear dd0_0 ff0_0 dd0_1 ff0_1 dd0_2 ff0_2 hh0
  have ht0 := sto (w := W7) (t := 26) [.bool sr3_6x1, .slice pr3_6x1 kr3_6x1 cr3_6x1, .slice qr3_6x1 jr3_6x1 dr3_6x1] (hxX6_4) rfl rfl (hW8) hgeX6_4
  obtain ⟨W9, hW9⟩ : ∃ W', setAll W8 X6_4 0 [.bool sr3_6x1, .slice pr3_6x1 kr3_6x1 cr3_6x1, .slice qr3_6x1 jr3_6x1 dr3_6x1] = W' := ⟨_, rfl⟩
  change Code.wp _ _ _ _ (setAll W8 X6_4 0 [.bool sr3_6x1, .slice pr3_6x1 kr3_6x1 cr3_6x1, .slice qr3_6x1 jr3_6x1 dr3_6x1])
  rw [hW9]
  have hb2 := ht0.bel
  rw [hW9] at hb2
  have Hg3_6 := g3.lim (ht0.lim)
  rw [hW9] at Hg3_6
  replace Hg3_6 := Lib.hid Hg3_6
  have HX6_4 := ht0.heap
  rw [hW9] at HX6_4
  replace HX6_4 := Lib.hid HX6_4
  have hgwX6_4 : w.heap.size ≤ X6_4 := Nat.le_trans HBW.out.size hgeX6_4
  replace HBW := Lib.hid (HBW.out.trans hb2)
  replace HBW_ := Lib.hid (HBW_.out.trans hb2)
  replace HBW2_ := Lib.hid (HBW2_.out.trans hb2)
  replace HBW3_ := Lib.hid (HBW3_.out.trans hb2)
  replace HBW5_ := Lib.hid (HBW5_.out.trans hb2)
  have HBW7_ := Lib.hid hb2
  clear hW8 g3 hxX6_4 hgeX6_4 hb2 hW9 ht0
  refine region_flow 28 [[], [], [], [1, 2], [0, 3], [4], [5], [6], [6, 7], [6, 8], [6, 9], [10], [11], [11], [11], [11, 12, 13, 14], [11, 15], [11, 16], [11, 17], [18], [19], [19], [19], [19], [19, 21, 22, 23], [19, 20, 24], [19, 25], [19, 26]] [.is (.agg #[.bool sr3_6x1, .slice pr3_6x1 kr3_6x1 cr3_6x1, .slice qr3_6x1 jr3_6x1 dr3_6x1]), .is (.agg #[.bool sp1, .slice pp1 kp1 cp1, .slice qp1 jp1 dp1, .bool sp2, .slice pp2 kp2 cp2, .slice qp2 jp2 dp2]), .is (.agg #[.bool sr3_5x1, .slice pr3_5x1 kr3_5x1 cr3_5x1, .slice qr3_5x1 jr3_5x1 dr3_5x1, .bool sr3_5x2, .slice pr3_5x2 kr3_5x2 cr3_5x2, .slice qr3_5x2 jr3_5x2 dr3_5x2]), .has (fun v w => RN 113 w v R5), .is (.int .i64 C1), .is (.bool false), .is (.bool false), .is (.agg #[.bool sr3_6x1, .slice pr3_6x1 kr3_6x1 cr3_6x1, .slice qr3_6x1 jr3_6x1 dr3_6x1]), .is (.int .i64 C2), .is (.bool false), .is (.bool false), .is (.bool false), .is (.agg #[.bool sr3_5x1, .slice pr3_5x1 kr3_5x1 cr3_5x1, .slice qr3_5x1 jr3_5x1 dr3_5x1, .bool sr3_5x2, .slice pr3_5x2 kr3_5x2 cr3_5x2, .slice qr3_5x2 jr3_5x2 dr3_5x2]), .is (.agg #[.bool sa1, .slice pa1 ka1 ca1, .slice qa1 ja1 da1, .bool sa2, .slice pa2 ka2 ca2, .slice qa2 ja2 da2]), .is (.agg #[.bool sb1, .slice pb1 kb1 cb1, .slice qb1 jb1 db1, .bool sb2, .slice pb2 kb2 cb2, .slice qb2 jb2 db2]), .has (fun v w => RN 1740 w v R6), .is (.int .i64 C3), .is (.bool false), .is (.bool false), .is (.bool false), .is (.agg #[.bool sr3_6x1, .slice pr3_6x1 kr3_6x1 cr3_6x1, .slice qr3_6x1 jr3_6x1 dr3_6x1]), .is (.agg #[.bool sp1, .slice pp1 kp1 cp1, .slice qp1 jp1 dp1, .bool sp2, .slice pp2 kp2 cp2, .slice qp2 jp2 dp2]), .is (.agg #[.bool sb1, .slice pb1 kb1 cb1, .slice qb1 jb1 db1, .bool sb2, .slice pb2 kb2 cb2, .slice qb2 jb2 db2]), .is (.agg #[.bool sa1, .slice pa1 ka1 ca1, .slice qa1 ja1 da1, .bool sa2, .slice pa2 ka2 ca2, .slice qa2 ja2 da2]), .has (fun v w => RN 540 w v R7), .is (.int .i64 C4), .is (.bool false), .is (.bool false)] (by kernel_rfl) (by kernel_rfl) rfl (by simp only [Steady]; exact ⟨fun _ _ _ h hb => h.bel hb, fun _ _ _ h hb => h.bel hb, fun _ _ _ h hb => h.bel hb, trivial⟩) ?_
  simp only [List.take_succ_cons, List.take_zero, List.drop_succ_cons, List.drop_zero]
  refine fV (by rfl) (by intro w1 hw1 hk1; obtain ⟨c0, c1, c2⟩ := boxc3 (hw1.heap HX6_4.out); go_simp) ?_
  simp only [Act.put, sA, sB, sC]
  refine fV (by rfl) (by intro w1 hw1 hk1; obtain ⟨c0, c1, c2, c3, c4, c5⟩ := boxc6 (hw1.heap (HBW2_.out.heap HX1_6.out)); go_simp) ?_
  simp only [Act.put, sA, sB, sC]
  refine fV (by rfl) (by intro w1 hw1 hk1; obtain ⟨c0, c1, c2, c3, c4, c5⟩ := boxc6 (hw1.heap (HBW7_.out.heap HX5_4.out)); go_simp) ?_
  simp only [Act.put, sA, sB, sC]
  refine fH (by rfl) (by intro w1 hw1 hk1; exact HC7_3.out _ _ _ (HPp.out.bel (HBW.out.trans hw1)) (Hg3_5.out.bel (HBW7_.out.trans hw1))) (by intro; go_simp) (fun v3 => ?_)
  simp only [Act.put, sA, sB, sC]
  refine fC (by rfl) (by intro w1 hw1 hk1; obtain ⟨g3, -⟩ := hk1; exact HC7_4.out _ _ _ (Hg3_6.out.bel hw1) g3) (by intro; go_simp) ?_
  simp only [Act.put, sA, sB, sC]
  refine flow_is (by intro w1 hw1 hk1; refine want (by rfl) (gives_val ?_); have q := HL7_5.out; go_simp; (first | done | simp [q] | omega)) ?_
  simp only [Act.put, sA, sB, sC]
  refine fV (by rfl) (by intro w1 hw1 hk1; go_simp) ?_
  simp only [Act.put, sA, sB, sC]
  refine fV (by rfl) (by intro w1 hw1 hk1; obtain ⟨c0, c1, c2⟩ := boxc3 (hw1.heap HX6_4.out); go_simp) ?_
  simp only [Act.put, sA, sB, sC]
  refine fC (by rfl) (by intro w1 hw1 hk1; exact HC7_8.out _ _ (Hg3_6.out.bel hw1)) (by intro; go_simp) ?_
  simp only [Act.put, sA, sB, sC]
  refine flow_is (by intro w1 hw1 hk1; refine want (by rfl) (gives_val ?_); have q := HL7_9.out; go_simp; (first | done | simp [q] | omega)) ?_
  simp only [Act.put, sA, sB, sC]
  refine fV (by rfl) (by intro w1 hw1 hk1; go_simp) ?_
  simp only [Act.put, sA, sB, sC]
  refine fV (by rfl) (by intro w1 hw1 hk1; go_simp) ?_
  simp only [Act.put, sA, sB, sC]
  refine fV (by rfl) (by intro w1 hw1 hk1; obtain ⟨c0, c1, c2, c3, c4, c5⟩ := boxc6 (hw1.heap (HBW7_.out.heap HX5_4.out)); go_simp) ?_
  simp only [Act.put, sA, sB, sC]
  refine fV (by rfl) (by intro w1 hw1 hk1; obtain ⟨c0, c1, c2, c3, c4, c5⟩ := boxc6 (hw1.heap (HBW2_.out.heap HX1_7.out)); go_simp) ?_
  simp only [Act.put, sA, sB, sC]
  refine fV (by rfl) (by intro w1 hw1 hk1; obtain ⟨c0, c1, c2, c3, c4, c5⟩ := boxc6 (hw1.heap (HBW2_.out.heap HX1_8.out)); go_simp) ?_
  simp only [Act.put, sA, sB, sC]
  refine fH (by rfl) (by intro w1 hw1 hk1; exact HC7_15.out _ _ _ _ (Hg3_5.out.bel (HBW7_.out.trans hw1)) (HPa.out.bel (HBW.out.trans hw1)) (HPb.out.bel (HBW.out.trans hw1))) (by intro; go_simp) (fun v15 => ?_)
  simp only [Act.put, sA, sB, sC]
  refine fC (by rfl) (by intro w1 hw1 hk1; obtain ⟨g15, -, -⟩ := hk1; exact HC7_16.out _ _ g15) (by intro; go_simp) ?_
  simp only [Act.put, sA, sB, sC]
  refine flow_is (by intro w1 hw1 hk1; refine want (by rfl) (gives_val ?_); have q := HL7_17.out; go_simp; (first | done | simp [q] | omega)) ?_
  simp only [Act.put, sA, sB, sC]
  refine fV (by rfl) (by intro w1 hw1 hk1; go_simp) ?_
  simp only [Act.put, sA, sB, sC]
  refine fV (by rfl) (by intro w1 hw1 hk1; go_simp) ?_
  simp only [Act.put, sA, sB, sC]
  refine fV (by rfl) (by intro w1 hw1 hk1; obtain ⟨c0, c1, c2⟩ := boxc3 (hw1.heap HX6_4.out); go_simp) ?_
  simp only [Act.put, sA, sB, sC]
  refine fV (by rfl) (by intro w1 hw1 hk1; obtain ⟨c0, c1, c2, c3, c4, c5⟩ := boxc6 (hw1.heap (HBW2_.out.heap HX1_6.out)); go_simp) ?_
  simp only [Act.put, sA, sB, sC]
  refine fV (by rfl) (by intro w1 hw1 hk1; obtain ⟨c0, c1, c2, c3, c4, c5⟩ := boxc6 (hw1.heap (HBW2_.out.heap HX1_8.out)); go_simp) ?_
  simp only [Act.put, sA, sB, sC]
  refine fV (by rfl) (by intro w1 hw1 hk1; obtain ⟨c0, c1, c2, c3, c4, c5⟩ := boxc6 (hw1.heap (HBW2_.out.heap HX1_7.out)); go_simp) ?_
  simp only [Act.put, sA, sB, sC]
  refine fH (by rfl) (by intro w1 hw1 hk1; exact HC7_24.out _ _ _ _ (HPp.out.bel (HBW.out.trans hw1)) (HPb.out.bel (HBW.out.trans hw1)) (HPa.out.bel (HBW.out.trans hw1))) (by intro; go_simp) (fun v24 => ?_)
  simp only [Act.put, sA, sB, sC]
  refine fC (by rfl) (by intro w1 hw1 hk1; obtain ⟨g24, -, -, -⟩ := hk1; exact HC7_25.out _ _ _ (Hg3_6.out.bel hw1) g24) (by intro; go_simp) ?_
  simp only [Act.put, sA, sB, sC]
  refine flow_is (by intro w1 hw1 hk1; refine want (by rfl) (gives_val ?_); have q := HL7_26.out; go_simp; (first | done | simp [q] | omega)) ?_
  simp only [Act.put, sA, sB, sC]
  refine fV (by rfl) (by intro w1 hw1 hk1; go_simp) ?_
  simp only [Act.put, sA, sB, sC]
  intro W10 hW10 hk1
  obtain ⟨g24, g15, g3, -⟩ := hk1
  have hb2 := hW10
  replace HBW := Lib.hid (HBW.out.trans hb2)
  replace HBW_ := Lib.hid (HBW_.out.trans hb2)
  replace HBW2_ := Lib.hid (HBW2_.out.trans hb2)
  replace HBW3_ := Lib.hid (HBW3_.out.trans hb2)
  replace HBW5_ := Lib.hid (HBW5_.out.trans hb2)
  replace HBW7_ := Lib.hid (HBW7_.out.trans hb2)
  have HBW9_ := Lib.hid hb2
  clear hW10 g3 g15 g24 hb2
  go_upto_region 9 with fail
  rcases HCASE.out with ⟨q0, q1, q2⟩ | ⟨q0, q1⟩ | ⟨q0, q1, q2⟩ | ⟨q0, q1, q2, q3⟩
  · have HL9_2 := Lib.hid q0
    have HL10_4 := Lib.hid q1
    have HL10_14 := Lib.hid q2
    clear q0 q1 q2
    refine line_region 3 [[], [0], [1]] [.is (.agg #[.bool sr3_6x1, .slice pr3_6x1 kr3_6x1 cr3_6x1, .slice qr3_6x1 jr3_6x1 dr3_6x1]), .is (.int .i64 C5), .is (.bool true)] rfl rfl (by decide) (by simp only [Steady]) ?_
    simp only [List.take_succ_cons, List.take_zero, List.drop_succ_cons, List.drop_zero]
    refine fV (by rfl) (by intro w1 hw1 hk1; obtain ⟨c0, c1, c2⟩ := boxc3 (hw1.heap (HBW9_.out.heap HX6_4.out)); go_simp) ?_
    simp only [Act.put, sA, sB, sC]
    refine fC (by rfl) (by intro w1 hw1 hk1; exact HC9_1.out _ _ (Hg3_6.out.bel (HBW9_.out.trans hw1))) (by intro; go_simp) ?_
    simp only [Act.put, sA, sB, sC]
    refine flow_is (by intro w1 hw1 hk1; refine want (by rfl) (gives_val ?_); have q := HL9_2.out; go_simp; (first | done | simp [q] | omega)) ?_
    simp only [Act.put, sA, sB, sC]
    intro W11 hW11 hk1
    have hb2 := hW11
    replace HBW := Lib.hid (HBW.out.trans hb2)
    replace HBW_ := Lib.hid (HBW_.out.trans hb2)
    replace HBW2_ := Lib.hid (HBW2_.out.trans hb2)
    replace HBW3_ := Lib.hid (HBW3_.out.trans hb2)
    replace HBW5_ := Lib.hid (HBW5_.out.trans hb2)
    replace HBW7_ := Lib.hid (HBW7_.out.trans hb2)
    replace HBW9_ := Lib.hid (HBW9_.out.trans hb2)
    have HBW10_ := Lib.hid hb2
    clear hW11 hb2
    go_upto_region 10 with fail
    refine region_flow 19 [[], [], [], [0, 1, 2], [3], [4], [5], [5], [5, 6, 7], [5], [5], [5, 9, 10], [5, 8, 11], [5, 12], [5, 13], [5, 14], [15], [16], [16, 17]] [.is (.agg #[.bool sa1, .slice pa1 ka1 ca1, .slice qa1 ja1 da1, .bool sa2, .slice pa2 ka2 ca2, .slice qa2 ja2 da2]), .is (.agg #[.bool sb1, .slice pb1 kb1 cb1, .slice qb1 jb1 db1, .bool sb2, .slice pb2 kb2 cb2, .slice qb2 jb2 db2]), .is (.agg #[.bool sp1, .slice pp1 kp1 cp1, .slice qp1 jp1 dp1, .bool sp2, .slice pp2 kp2 cp2, .slice qp2 jp2 dp2]), .is (.int .i64 C6), .is (.bool true), .is (.bool true), .is (.agg #[.bool sp1, .slice pp1 kp1 cp1, .slice qp1 jp1 dp1, .bool sp2, .slice pp2 kp2 cp2, .slice qp2 jp2 dp2]), .is (.agg #[.bool sa1, .slice pa1 ka1 ca1, .slice qa1 ja1 da1, .bool sa2, .slice pa2 ka2 ca2, .slice qa2 ja2 da2]), .has (fun v w => PN 13 w v R8 R9), .is (.agg #[.bool sp1, .slice pp1 kp1 cp1, .slice qp1 jp1 dp1, .bool sp2, .slice pp2 kp2 cp2, .slice qp2 jp2 dp2]), .is (.agg #[.bool sb1, .slice pb1 kb1 cb1, .slice qb1 jb1 db1, .bool sb2, .slice pb2 kb2 cb2, .slice qb2 jb2 db2]), .has (fun v w => PN 13 w v R10 R11), .has (fun v w => RN 53 w v R12), .is (.int .i64 C7), .is (.bool true), .is (.bool true), .is (.bool true), .is (.bool true), .is (.bool true)] (by kernel_rfl) (by kernel_rfl) rfl (by simp only [Steady]; exact ⟨fun _ _ _ h hb => h.bel hb, fun _ _ _ h hb => h.bel hb, fun _ _ _ h hb => h.bel hb, trivial⟩) ?_
    simp only [List.take_succ_cons, List.take_zero, List.drop_succ_cons, List.drop_zero]
    refine fV (by rfl) (by intro w1 hw1 hk1; obtain ⟨c0, c1, c2, c3, c4, c5⟩ := boxc6 (hw1.heap (HBW2_.out.heap HX1_7.out)); go_simp) ?_
    simp only [Act.put, sA, sB, sC]
    refine fV (by rfl) (by intro w1 hw1 hk1; obtain ⟨c0, c1, c2, c3, c4, c5⟩ := boxc6 (hw1.heap (HBW2_.out.heap HX1_8.out)); go_simp) ?_
    simp only [Act.put, sA, sB, sC]
    refine fV (by rfl) (by intro w1 hw1 hk1; obtain ⟨c0, c1, c2, c3, c4, c5⟩ := boxc6 (hw1.heap (HBW2_.out.heap HX1_6.out)); go_simp) ?_
    simp only [Act.put, sA, sB, sC]
    refine fC (by rfl) (by intro w1 hw1 hk1; exact HC10_3.out _ _ _ _ (HPa.out.bel (HBW.out.trans hw1)) (HPb.out.bel (HBW.out.trans hw1)) (HPp.out.bel (HBW.out.trans hw1))) (by intro; go_simp) ?_
    simp only [Act.put, sA, sB, sC]
    refine flow_is (by intro w1 hw1 hk1; refine want (by rfl) (gives_val ?_); have q := HL10_4.out; go_simp; (first | done | simp [q] | omega)) ?_
    simp only [Act.put, sA, sB, sC]
    refine fV (by rfl) (by intro w1 hw1 hk1; go_simp) ?_
    simp only [Act.put, sA, sB, sC]
    refine fV (by rfl) (by intro w1 hw1 hk1; obtain ⟨c0, c1, c2, c3, c4, c5⟩ := boxc6 (hw1.heap (HBW2_.out.heap HX1_6.out)); go_simp) ?_
    simp only [Act.put, sA, sB, sC]
    refine fV (by rfl) (by intro w1 hw1 hk1; obtain ⟨c0, c1, c2, c3, c4, c5⟩ := boxc6 (hw1.heap (HBW2_.out.heap HX1_7.out)); go_simp) ?_
    simp only [Act.put, sA, sB, sC]
    refine fH (by rfl) (by intro w1 hw1 hk1; exact HC10_8.out _ _ _ (HPp.out.bel (HBW.out.trans hw1)) (HPa.out.bel (HBW.out.trans hw1))) (by intro; go_simp) (fun v8 => ?_)
    simp only [Act.put, sA, sB, sC]
    refine fV (by rfl) (by intro w1 hw1 hk1; obtain ⟨c0, c1, c2, c3, c4, c5⟩ := boxc6 (hw1.heap (HBW2_.out.heap HX1_6.out)); go_simp) ?_
    simp only [Act.put, sA, sB, sC]
    refine fV (by rfl) (by intro w1 hw1 hk1; obtain ⟨c0, c1, c2, c3, c4, c5⟩ := boxc6 (hw1.heap (HBW2_.out.heap HX1_8.out)); go_simp) ?_
    simp only [Act.put, sA, sB, sC]
    refine fH (by rfl) (by intro w1 hw1 hk1; exact HC10_11.out _ _ _ (HPp.out.bel (HBW.out.trans hw1)) (HPb.out.bel (HBW.out.trans hw1))) (by intro; go_simp) (fun v11 => ?_)
    simp only [Act.put, sA, sB, sC]
    refine fH (by rfl) (by intro w1 hw1 hk1; obtain ⟨g11, g8, -⟩ := hk1; exact HC10_12.out _ _ _ g8 g11) (by intro; go_simp) (fun v12 => ?_)
    simp only [Act.put, sA, sB, sC]
    refine fC (by rfl) (by intro w1 hw1 hk1; obtain ⟨g12, -, -, -⟩ := hk1; exact HC10_13.out _ _ g12) (by intro; go_simp) ?_
    simp only [Act.put, sA, sB, sC]
    refine flow_is (by intro w1 hw1 hk1; refine want (by rfl) (gives_val ?_); have q := HL10_14.out; go_simp; (first | done | simp [q] | omega)) ?_
    simp only [Act.put, sA, sB, sC]
    refine fV (by rfl) (by intro w1 hw1 hk1; go_simp) ?_
    simp only [Act.put, sA, sB, sC]
    refine fV (by rfl) (by intro w1 hw1 hk1; go_simp) ?_
    simp only [Act.put, sA, sB, sC]
    refine fC (by rfl) (by intro w1 hw1 hk1; exact HC10_17.out _) (by intro; go_simp) ?_
    simp only [Act.put, sA, sB, sC]
    refine fV (by rfl) (by intro w1 hw1 hk1; go_simp) ?_
    simp only [Act.put, sA, sB, sC]
    intro W12 hW12 hk1
    obtain ⟨g12, g11, g8, -⟩ := hk1
    have hfb := HBW.out.trans hW12
    clear hW12 g8 g11 g12
    go_wp2
    go_ret
    exact ⟨_, rfl, hfb, rfl⟩
  · have HL9_2 := Lib.hid q0
    have HL11_4 := Lib.hid q1
    clear q0 q1
    refine line_region 3 [[], [0], [1]] [.is (.agg #[.bool sr3_6x1, .slice pr3_6x1 kr3_6x1 cr3_6x1, .slice qr3_6x1 jr3_6x1 dr3_6x1]), .is (.int .i64 C5), .is (.bool false)] rfl rfl (by decide) (by simp only [Steady]) ?_
    simp only [List.take_succ_cons, List.take_zero, List.drop_succ_cons, List.drop_zero]
    refine fV (by rfl) (by intro w1 hw1 hk1; obtain ⟨c0, c1, c2⟩ := boxc3 (hw1.heap (HBW9_.out.heap HX6_4.out)); go_simp) ?_
    simp only [Act.put, sA, sB, sC]
    refine fC (by rfl) (by intro w1 hw1 hk1; exact HC9_1.out _ _ (Hg3_6.out.bel (HBW9_.out.trans hw1))) (by intro; go_simp) ?_
    simp only [Act.put, sA, sB, sC]
    refine flow_is (by intro w1 hw1 hk1; refine want (by rfl) (gives_val ?_); have q := HL9_2.out; go_simp; (first | done | simp [q] | omega)) ?_
    simp only [Act.put, sA, sB, sC]
    intro W11 hW11 hk1
    have hb2 := hW11
    replace HBW := Lib.hid (HBW.out.trans hb2)
    replace HBW_ := Lib.hid (HBW_.out.trans hb2)
    replace HBW2_ := Lib.hid (HBW2_.out.trans hb2)
    replace HBW3_ := Lib.hid (HBW3_.out.trans hb2)
    replace HBW5_ := Lib.hid (HBW5_.out.trans hb2)
    replace HBW7_ := Lib.hid (HBW7_.out.trans hb2)
    replace HBW9_ := Lib.hid (HBW9_.out.trans hb2)
    have HBW10_ := Lib.hid hb2
    clear hW11 hb2
    go_upto_region 11 with fail
    refine region_flow 24 [[], [], [], [0, 1, 2], [3], [4], [5], [5], [5, 6, 7], [5], [5], [5, 9, 10], [5, 8, 11], [5, 12], [5, 13], [5, 14], [15], [16], [16], [16, 17, 18], [16, 19], [20], [21], [21, 22]] [.is (.agg #[.bool sa1, .slice pa1 ka1 ca1, .slice qa1 ja1 da1, .bool sa2, .slice pa2 ka2 ca2, .slice qa2 ja2 da2]), .is (.agg #[.bool sb1, .slice pb1 kb1 cb1, .slice qb1 jb1 db1, .bool sb2, .slice pb2 kb2 cb2, .slice qb2 jb2 db2]), .is (.agg #[.bool sp1, .slice pp1 kp1 cp1, .slice qp1 jp1 dp1, .bool sp2, .slice pp2 kp2 cp2, .slice qp2 jp2 dp2]), .is (.int .i64 C8), .is (.bool true), .is (.bool true), .is undef, .is undef, .is undef, .is undef, .is undef, .is undef, .is undef, .is undef, .is undef, .is (.bool true), .is (.bool true), .is undef, .is undef, .is undef, .is (.bool true), .is (.bool true), .is (.bool true), .is (.bool true)] (by kernel_rfl) (by kernel_rfl) rfl (by simp only [Steady]) ?_
    simp only [List.take_succ_cons, List.take_zero, List.drop_succ_cons, List.drop_zero]
    refine fV (by rfl) (by intro w1 hw1 hk1; obtain ⟨c0, c1, c2, c3, c4, c5⟩ := boxc6 (hw1.heap (HBW2_.out.heap HX1_7.out)); go_simp) ?_
    simp only [Act.put, sA, sB, sC]
    refine fV (by rfl) (by intro w1 hw1 hk1; obtain ⟨c0, c1, c2, c3, c4, c5⟩ := boxc6 (hw1.heap (HBW2_.out.heap HX1_8.out)); go_simp) ?_
    simp only [Act.put, sA, sB, sC]
    refine fV (by rfl) (by intro w1 hw1 hk1; obtain ⟨c0, c1, c2, c3, c4, c5⟩ := boxc6 (hw1.heap (HBW2_.out.heap HX1_6.out)); go_simp) ?_
    simp only [Act.put, sA, sB, sC]
    refine fC (by rfl) (by intro w1 hw1 hk1; exact HC11_3.out _ _ _ _ (HPa.out.bel (HBW.out.trans hw1)) (HPb.out.bel (HBW.out.trans hw1)) (HPp.out.bel (HBW.out.trans hw1))) (by intro; go_simp) ?_
    simp only [Act.put, sA, sB, sC]
    refine flow_is (by intro w1 hw1 hk1; refine want (by rfl) (gives_val ?_); have q := HL11_4.out; go_simp; (first | done | simp [q] | omega)) ?_
    simp only [Act.put, sA, sB, sC]
    refine fV (by rfl) (by intro w1 hw1 hk1; go_simp) ?_
    simp only [Act.put, sA, sB, sC]
    refine flow_is (fun w1 hw1 hk1 => wantnot (fun h => Bool.noConfusion (show false = true from h)) rfl) ?_
    simp only [Act.put, sA, sB, sC]
    refine flow_is (fun w1 hw1 hk1 => wantnot (fun h => Bool.noConfusion (show false = true from h)) rfl) ?_
    simp only [Act.put, sA, sB, sC]
    refine flow_is (fun w1 hw1 hk1 => wantnot (fun h => Bool.noConfusion (show false = true from h)) rfl) ?_
    simp only [Act.put, sA, sB, sC]
    refine flow_is (fun w1 hw1 hk1 => wantnot (fun h => Bool.noConfusion (show false = true from h)) rfl) ?_
    simp only [Act.put, sA, sB, sC]
    refine flow_is (fun w1 hw1 hk1 => wantnot (fun h => Bool.noConfusion (show false = true from h)) rfl) ?_
    simp only [Act.put, sA, sB, sC]
    refine flow_is (fun w1 hw1 hk1 => wantnot (fun h => Bool.noConfusion (show false = true from h)) rfl) ?_
    simp only [Act.put, sA, sB, sC]
    refine flow_is (fun w1 hw1 hk1 => wantnot (fun h => Bool.noConfusion (show false = true from h)) rfl) ?_
    simp only [Act.put, sA, sB, sC]
    refine flow_is (fun w1 hw1 hk1 => wantnot (fun h => Bool.noConfusion (show false = true from h)) rfl) ?_
    simp only [Act.put, sA, sB, sC]
    refine flow_is (fun w1 hw1 hk1 => wantnot (fun h => Bool.noConfusion (show false = true from h)) rfl) ?_
    simp only [Act.put, sA, sB, sC]
    refine fV (by rfl) (by intro w1 hw1 hk1; go_simp) ?_
    simp only [Act.put, sA, sB, sC]
    refine fV (by rfl) (by intro w1 hw1 hk1; go_simp) ?_
    simp only [Act.put, sA, sB, sC]
    refine flow_is (fun w1 hw1 hk1 => wantnot (fun h => Bool.noConfusion (show false = true from h)) rfl) ?_
    simp only [Act.put, sA, sB, sC]
    refine flow_is (fun w1 hw1 hk1 => wantnot (fun h => Bool.noConfusion (show false = true from h)) rfl) ?_
    simp only [Act.put, sA, sB, sC]
    refine flow_is (fun w1 hw1 hk1 => wantnot (fun h => Bool.noConfusion (show false = true from h)) rfl) ?_
    simp only [Act.put, sA, sB, sC]
    refine fV (by rfl) (by intro w1 hw1 hk1; go_simp) ?_
    simp only [Act.put, sA, sB, sC]
    refine fV (by rfl) (by intro w1 hw1 hk1; go_simp) ?_
    simp only [Act.put, sA, sB, sC]
    refine fC (by rfl) (by intro w1 hw1 hk1; exact HC11_22.out _) (by intro; go_simp) ?_
    simp only [Act.put, sA, sB, sC]
    refine fV (by rfl) (by intro w1 hw1 hk1; go_simp) ?_
    simp only [Act.put, sA, sB, sC]
    intro W12 hW12 hk1
    have hfb := HBW.out.trans hW12
    clear hW12
    go_wp2
    go_ret
    exact ⟨_, rfl, hfb, rfl⟩
  · have HL9_2 := Lib.hid q0
    have HL11_4 := Lib.hid q1
    have HL11_14 := Lib.hid q2
    clear q0 q1 q2
    refine line_region 3 [[], [0], [1]] [.is (.agg #[.bool sr3_6x1, .slice pr3_6x1 kr3_6x1 cr3_6x1, .slice qr3_6x1 jr3_6x1 dr3_6x1]), .is (.int .i64 C5), .is (.bool false)] rfl rfl (by decide) (by simp only [Steady]) ?_
    simp only [List.take_succ_cons, List.take_zero, List.drop_succ_cons, List.drop_zero]
    refine fV (by rfl) (by intro w1 hw1 hk1; obtain ⟨c0, c1, c2⟩ := boxc3 (hw1.heap (HBW9_.out.heap HX6_4.out)); go_simp) ?_
    simp only [Act.put, sA, sB, sC]
    refine fC (by rfl) (by intro w1 hw1 hk1; exact HC9_1.out _ _ (Hg3_6.out.bel (HBW9_.out.trans hw1))) (by intro; go_simp) ?_
    simp only [Act.put, sA, sB, sC]
    refine flow_is (by intro w1 hw1 hk1; refine want (by rfl) (gives_val ?_); have q := HL9_2.out; go_simp; (first | done | simp [q] | omega)) ?_
    simp only [Act.put, sA, sB, sC]
    intro W11 hW11 hk1
    have hb2 := hW11
    replace HBW := Lib.hid (HBW.out.trans hb2)
    replace HBW_ := Lib.hid (HBW_.out.trans hb2)
    replace HBW2_ := Lib.hid (HBW2_.out.trans hb2)
    replace HBW3_ := Lib.hid (HBW3_.out.trans hb2)
    replace HBW5_ := Lib.hid (HBW5_.out.trans hb2)
    replace HBW7_ := Lib.hid (HBW7_.out.trans hb2)
    replace HBW9_ := Lib.hid (HBW9_.out.trans hb2)
    have HBW10_ := Lib.hid hb2
    clear hW11 hb2
    go_upto_region 11 with fail
    refine region_flow 24 [[], [], [], [0, 1, 2], [3], [4], [5], [5], [5, 6, 7], [5], [5], [5, 9, 10], [5, 8, 11], [5, 12], [5, 13], [5, 14], [15], [16], [16], [16, 17, 18], [16, 19], [20], [21], [21, 22]] [.is (.agg #[.bool sa1, .slice pa1 ka1 ca1, .slice qa1 ja1 da1, .bool sa2, .slice pa2 ka2 ca2, .slice qa2 ja2 da2]), .is (.agg #[.bool sb1, .slice pb1 kb1 cb1, .slice qb1 jb1 db1, .bool sb2, .slice pb2 kb2 cb2, .slice qb2 jb2 db2]), .is (.agg #[.bool sp1, .slice pp1 kp1 cp1, .slice qp1 jp1 dp1, .bool sp2, .slice pp2 kp2 cp2, .slice qp2 jp2 dp2]), .is (.int .i64 C8), .is (.bool false), .is (.bool false), .is (.agg #[.bool sp1, .slice pp1 kp1 cp1, .slice qp1 jp1 dp1, .bool sp2, .slice pp2 kp2 cp2, .slice qp2 jp2 dp2]), .is (.agg #[.bool sa1, .slice pa1 ka1 ca1, .slice qa1 ja1 da1, .bool sa2, .slice pa2 ka2 ca2, .slice qa2 ja2 da2]), .has (fun v w => PN 13 w v R13 R14), .is (.agg #[.bool sp1, .slice pp1 kp1 cp1, .slice qp1 jp1 dp1, .bool sp2, .slice pp2 kp2 cp2, .slice qp2 jp2 dp2]), .is (.agg #[.bool sb1, .slice pb1 kb1 cb1, .slice qb1 jb1 db1, .bool sb2, .slice pb2 kb2 cb2, .slice qb2 jb2 db2]), .has (fun v w => PN 13 w v R15 R16), .has (fun v w => RN 53 w v R17), .is (.int .i64 C9), .is (.bool true), .is (.bool true), .is (.bool true), .is undef, .is undef, .is undef, .is (.bool true), .is (.bool true), .is (.bool true), .is (.bool true)] (by kernel_rfl) (by kernel_rfl) rfl (by simp only [Steady]; exact ⟨fun _ _ _ h hb => h.bel hb, fun _ _ _ h hb => h.bel hb, fun _ _ _ h hb => h.bel hb, trivial⟩) ?_
    simp only [List.take_succ_cons, List.take_zero, List.drop_succ_cons, List.drop_zero]
    refine fV (by rfl) (by intro w1 hw1 hk1; obtain ⟨c0, c1, c2, c3, c4, c5⟩ := boxc6 (hw1.heap (HBW2_.out.heap HX1_7.out)); go_simp) ?_
    simp only [Act.put, sA, sB, sC]
    refine fV (by rfl) (by intro w1 hw1 hk1; obtain ⟨c0, c1, c2, c3, c4, c5⟩ := boxc6 (hw1.heap (HBW2_.out.heap HX1_8.out)); go_simp) ?_
    simp only [Act.put, sA, sB, sC]
    refine fV (by rfl) (by intro w1 hw1 hk1; obtain ⟨c0, c1, c2, c3, c4, c5⟩ := boxc6 (hw1.heap (HBW2_.out.heap HX1_6.out)); go_simp) ?_
    simp only [Act.put, sA, sB, sC]
    refine fC (by rfl) (by intro w1 hw1 hk1; exact HC11_3.out _ _ _ _ (HPa.out.bel (HBW.out.trans hw1)) (HPb.out.bel (HBW.out.trans hw1)) (HPp.out.bel (HBW.out.trans hw1))) (by intro; go_simp) ?_
    simp only [Act.put, sA, sB, sC]
    refine flow_is (by intro w1 hw1 hk1; refine want (by rfl) (gives_val ?_); have q := HL11_4.out; go_simp; (first | done | simp [q] | omega)) ?_
    simp only [Act.put, sA, sB, sC]
    refine fV (by rfl) (by intro w1 hw1 hk1; go_simp) ?_
    simp only [Act.put, sA, sB, sC]
    refine fV (by rfl) (by intro w1 hw1 hk1; obtain ⟨c0, c1, c2, c3, c4, c5⟩ := boxc6 (hw1.heap (HBW2_.out.heap HX1_6.out)); go_simp) ?_
    simp only [Act.put, sA, sB, sC]
    refine fV (by rfl) (by intro w1 hw1 hk1; obtain ⟨c0, c1, c2, c3, c4, c5⟩ := boxc6 (hw1.heap (HBW2_.out.heap HX1_7.out)); go_simp) ?_
    simp only [Act.put, sA, sB, sC]
    refine fH (by rfl) (by intro w1 hw1 hk1; exact HC11_8.out _ _ _ (HPp.out.bel (HBW.out.trans hw1)) (HPa.out.bel (HBW.out.trans hw1))) (by intro; go_simp) (fun v8 => ?_)
    simp only [Act.put, sA, sB, sC]
    refine fV (by rfl) (by intro w1 hw1 hk1; obtain ⟨c0, c1, c2, c3, c4, c5⟩ := boxc6 (hw1.heap (HBW2_.out.heap HX1_6.out)); go_simp) ?_
    simp only [Act.put, sA, sB, sC]
    refine fV (by rfl) (by intro w1 hw1 hk1; obtain ⟨c0, c1, c2, c3, c4, c5⟩ := boxc6 (hw1.heap (HBW2_.out.heap HX1_8.out)); go_simp) ?_
    simp only [Act.put, sA, sB, sC]
    refine fH (by rfl) (by intro w1 hw1 hk1; exact HC11_11.out _ _ _ (HPp.out.bel (HBW.out.trans hw1)) (HPb.out.bel (HBW.out.trans hw1))) (by intro; go_simp) (fun v11 => ?_)
    simp only [Act.put, sA, sB, sC]
    refine fH (by rfl) (by intro w1 hw1 hk1; obtain ⟨g11, g8, -⟩ := hk1; exact HC11_12.out _ _ _ g8 g11) (by intro; go_simp) (fun v12 => ?_)
    simp only [Act.put, sA, sB, sC]
    refine fC (by rfl) (by intro w1 hw1 hk1; obtain ⟨g12, -, -, -⟩ := hk1; exact HC11_13.out _ _ g12) (by intro; go_simp) ?_
    simp only [Act.put, sA, sB, sC]
    refine flow_is (by intro w1 hw1 hk1; refine want (by rfl) (gives_val ?_); have q := HL11_14.out; go_simp; (first | done | simp [q] | omega)) ?_
    simp only [Act.put, sA, sB, sC]
    refine fV (by rfl) (by intro w1 hw1 hk1; go_simp) ?_
    simp only [Act.put, sA, sB, sC]
    refine fV (by rfl) (by intro w1 hw1 hk1; go_simp) ?_
    simp only [Act.put, sA, sB, sC]
    refine flow_is (fun w1 hw1 hk1 => wantnot (fun h => Bool.noConfusion (show false = true from h)) rfl) ?_
    simp only [Act.put, sA, sB, sC]
    refine flow_is (fun w1 hw1 hk1 => wantnot (fun h => Bool.noConfusion (show false = true from h)) rfl) ?_
    simp only [Act.put, sA, sB, sC]
    refine flow_is (fun w1 hw1 hk1 => wantnot (fun h => Bool.noConfusion (show false = true from h)) rfl) ?_
    simp only [Act.put, sA, sB, sC]
    refine fV (by rfl) (by intro w1 hw1 hk1; go_simp) ?_
    simp only [Act.put, sA, sB, sC]
    refine fV (by rfl) (by intro w1 hw1 hk1; go_simp) ?_
    simp only [Act.put, sA, sB, sC]
    refine fC (by rfl) (by intro w1 hw1 hk1; exact HC11_22.out _) (by intro; go_simp) ?_
    simp only [Act.put, sA, sB, sC]
    refine fV (by rfl) (by intro w1 hw1 hk1; go_simp) ?_
    simp only [Act.put, sA, sB, sC]
    intro W12 hW12 hk1
    obtain ⟨g12, g11, g8, -⟩ := hk1
    have hfb := HBW.out.trans hW12
    clear hW12 g8 g11 g12
    go_wp2
    go_ret
    exact ⟨_, rfl, hfb, rfl⟩
  · have HL9_2 := Lib.hid q0
    have HL11_4 := Lib.hid q1
    have HL11_14 := Lib.hid q2
    have HL11_19 := Lib.hid q3
    clear q0 q1 q2 q3
    refine line_region 3 [[], [0], [1]] [.is (.agg #[.bool sr3_6x1, .slice pr3_6x1 kr3_6x1 cr3_6x1, .slice qr3_6x1 jr3_6x1 dr3_6x1]), .is (.int .i64 C5), .is (.bool false)] rfl rfl (by decide) (by simp only [Steady]) ?_
    simp only [List.take_succ_cons, List.take_zero, List.drop_succ_cons, List.drop_zero]
    refine fV (by rfl) (by intro w1 hw1 hk1; obtain ⟨c0, c1, c2⟩ := boxc3 (hw1.heap (HBW9_.out.heap HX6_4.out)); go_simp) ?_
    simp only [Act.put, sA, sB, sC]
    refine fC (by rfl) (by intro w1 hw1 hk1; exact HC9_1.out _ _ (Hg3_6.out.bel (HBW9_.out.trans hw1))) (by intro; go_simp) ?_
    simp only [Act.put, sA, sB, sC]
    refine flow_is (by intro w1 hw1 hk1; refine want (by rfl) (gives_val ?_); have q := HL9_2.out; go_simp; (first | done | simp [q] | omega)) ?_
    simp only [Act.put, sA, sB, sC]
    intro W11 hW11 hk1
    have hb2 := hW11
    replace HBW := Lib.hid (HBW.out.trans hb2)
    replace HBW_ := Lib.hid (HBW_.out.trans hb2)
    replace HBW2_ := Lib.hid (HBW2_.out.trans hb2)
    replace HBW3_ := Lib.hid (HBW3_.out.trans hb2)
    replace HBW5_ := Lib.hid (HBW5_.out.trans hb2)
    replace HBW7_ := Lib.hid (HBW7_.out.trans hb2)
    replace HBW9_ := Lib.hid (HBW9_.out.trans hb2)
    have HBW10_ := Lib.hid hb2
    clear hW11 hb2
    go_upto_region 11 with fail
    refine region_flow 24 [[], [], [], [0, 1, 2], [3], [4], [5], [5], [5, 6, 7], [5], [5], [5, 9, 10], [5, 8, 11], [5, 12], [5, 13], [5, 14], [15], [16], [16], [16, 17, 18], [16, 19], [20], [21], [21, 22]] [.is (.agg #[.bool sa1, .slice pa1 ka1 ca1, .slice qa1 ja1 da1, .bool sa2, .slice pa2 ka2 ca2, .slice qa2 ja2 da2]), .is (.agg #[.bool sb1, .slice pb1 kb1 cb1, .slice qb1 jb1 db1, .bool sb2, .slice pb2 kb2 cb2, .slice qb2 jb2 db2]), .is (.agg #[.bool sp1, .slice pp1 kp1 cp1, .slice qp1 jp1 dp1, .bool sp2, .slice pp2 kp2 cp2, .slice qp2 jp2 dp2]), .is (.int .i64 C8), .is (.bool false), .is (.bool false), .is (.agg #[.bool sp1, .slice pp1 kp1 cp1, .slice qp1 jp1 dp1, .bool sp2, .slice pp2 kp2 cp2, .slice qp2 jp2 dp2]), .is (.agg #[.bool sa1, .slice pa1 ka1 ca1, .slice qa1 ja1 da1, .bool sa2, .slice pa2 ka2 ca2, .slice qa2 ja2 da2]), .has (fun v w => PN 13 w v R13 R14), .is (.agg #[.bool sp1, .slice pp1 kp1 cp1, .slice qp1 jp1 dp1, .bool sp2, .slice pp2 kp2 cp2, .slice qp2 jp2 dp2]), .is (.agg #[.bool sb1, .slice pb1 kb1 cb1, .slice qb1 jb1 db1, .bool sb2, .slice pb2 kb2 cb2, .slice qb2 jb2 db2]), .has (fun v w => PN 13 w v R15 R16), .has (fun v w => RN 53 w v R17), .is (.int .i64 C9), .is (.bool false), .is (.bool false), .is (.bool false), .is (.agg #[.bool sa1, .slice pa1 ka1 ca1, .slice qa1 ja1 da1, .bool sa2, .slice pa2 ka2 ca2, .slice qa2 ja2 da2]), .is (.agg #[.bool sb1, .slice pb1 kb1 cb1, .slice qb1 jb1 db1, .bool sb2, .slice pb2 kb2 cb2, .slice qb2 jb2 db2]), .is (.bool true), .is (.bool true), .is (.bool true), .is (.bool true), .is (.bool true)] (by kernel_rfl) (by kernel_rfl) rfl (by simp only [Steady]; exact ⟨fun _ _ _ h hb => h.bel hb, fun _ _ _ h hb => h.bel hb, fun _ _ _ h hb => h.bel hb, trivial⟩) ?_
    simp only [List.take_succ_cons, List.take_zero, List.drop_succ_cons, List.drop_zero]
    refine fV (by rfl) (by intro w1 hw1 hk1; obtain ⟨c0, c1, c2, c3, c4, c5⟩ := boxc6 (hw1.heap (HBW2_.out.heap HX1_7.out)); go_simp) ?_
    simp only [Act.put, sA, sB, sC]
    refine fV (by rfl) (by intro w1 hw1 hk1; obtain ⟨c0, c1, c2, c3, c4, c5⟩ := boxc6 (hw1.heap (HBW2_.out.heap HX1_8.out)); go_simp) ?_
    simp only [Act.put, sA, sB, sC]
    refine fV (by rfl) (by intro w1 hw1 hk1; obtain ⟨c0, c1, c2, c3, c4, c5⟩ := boxc6 (hw1.heap (HBW2_.out.heap HX1_6.out)); go_simp) ?_
    simp only [Act.put, sA, sB, sC]
    refine fC (by rfl) (by intro w1 hw1 hk1; exact HC11_3.out _ _ _ _ (HPa.out.bel (HBW.out.trans hw1)) (HPb.out.bel (HBW.out.trans hw1)) (HPp.out.bel (HBW.out.trans hw1))) (by intro; go_simp) ?_
    simp only [Act.put, sA, sB, sC]
    refine flow_is (by intro w1 hw1 hk1; refine want (by rfl) (gives_val ?_); have q := HL11_4.out; go_simp; (first | done | simp [q] | omega)) ?_
    simp only [Act.put, sA, sB, sC]
    refine fV (by rfl) (by intro w1 hw1 hk1; go_simp) ?_
    simp only [Act.put, sA, sB, sC]
    refine fV (by rfl) (by intro w1 hw1 hk1; obtain ⟨c0, c1, c2, c3, c4, c5⟩ := boxc6 (hw1.heap (HBW2_.out.heap HX1_6.out)); go_simp) ?_
    simp only [Act.put, sA, sB, sC]
    refine fV (by rfl) (by intro w1 hw1 hk1; obtain ⟨c0, c1, c2, c3, c4, c5⟩ := boxc6 (hw1.heap (HBW2_.out.heap HX1_7.out)); go_simp) ?_
    simp only [Act.put, sA, sB, sC]
    refine fH (by rfl) (by intro w1 hw1 hk1; exact HC11_8.out _ _ _ (HPp.out.bel (HBW.out.trans hw1)) (HPa.out.bel (HBW.out.trans hw1))) (by intro; go_simp) (fun v8 => ?_)
    simp only [Act.put, sA, sB, sC]
    refine fV (by rfl) (by intro w1 hw1 hk1; obtain ⟨c0, c1, c2, c3, c4, c5⟩ := boxc6 (hw1.heap (HBW2_.out.heap HX1_6.out)); go_simp) ?_
    simp only [Act.put, sA, sB, sC]
    refine fV (by rfl) (by intro w1 hw1 hk1; obtain ⟨c0, c1, c2, c3, c4, c5⟩ := boxc6 (hw1.heap (HBW2_.out.heap HX1_8.out)); go_simp) ?_
    simp only [Act.put, sA, sB, sC]
    refine fH (by rfl) (by intro w1 hw1 hk1; exact HC11_11.out _ _ _ (HPp.out.bel (HBW.out.trans hw1)) (HPb.out.bel (HBW.out.trans hw1))) (by intro; go_simp) (fun v11 => ?_)
    simp only [Act.put, sA, sB, sC]
    refine fH (by rfl) (by intro w1 hw1 hk1; obtain ⟨g11, g8, -⟩ := hk1; exact HC11_12.out _ _ _ g8 g11) (by intro; go_simp) (fun v12 => ?_)
    simp only [Act.put, sA, sB, sC]
    refine fC (by rfl) (by intro w1 hw1 hk1; obtain ⟨g12, -, -, -⟩ := hk1; exact HC11_13.out _ _ g12) (by intro; go_simp) ?_
    simp only [Act.put, sA, sB, sC]
    refine flow_is (by intro w1 hw1 hk1; refine want (by rfl) (gives_val ?_); have q := HL11_14.out; go_simp; (first | done | simp [q] | omega)) ?_
    simp only [Act.put, sA, sB, sC]
    refine fV (by rfl) (by intro w1 hw1 hk1; go_simp) ?_
    simp only [Act.put, sA, sB, sC]
    refine fV (by rfl) (by intro w1 hw1 hk1; go_simp) ?_
    simp only [Act.put, sA, sB, sC]
    refine fV (by rfl) (by intro w1 hw1 hk1; obtain ⟨c0, c1, c2, c3, c4, c5⟩ := boxc6 (hw1.heap (HBW2_.out.heap HX1_7.out)); go_simp) ?_
    simp only [Act.put, sA, sB, sC]
    refine fV (by rfl) (by intro w1 hw1 hk1; obtain ⟨c0, c1, c2, c3, c4, c5⟩ := boxc6 (hw1.heap (HBW2_.out.heap HX1_8.out)); go_simp) ?_
    simp only [Act.put, sA, sB, sC]
    refine fC (by rfl) (by intro w1 hw1 hk1; exact by have q := HC11_19.out _ _ _ (HPa.out.bel (HBW.out.trans hw1)) (HPb.out.bel (HBW.out.trans hw1)); rw [HL11_19.out] at q; exact q) (by intro; go_simp) ?_
    simp only [Act.put, sA, sB, sC]
    refine fV (by rfl) (by intro w1 hw1 hk1; go_simp) ?_
    simp only [Act.put, sA, sB, sC]
    refine fV (by rfl) (by intro w1 hw1 hk1; go_simp) ?_
    simp only [Act.put, sA, sB, sC]
    refine fC (by rfl) (by intro w1 hw1 hk1; exact HC11_22.out _) (by intro; go_simp) ?_
    simp only [Act.put, sA, sB, sC]
    refine fV (by rfl) (by intro w1 hw1 hk1; go_simp) ?_
    simp only [Act.put, sA, sB, sC]
    intro W12 hW12 hk1
    obtain ⟨g12, g11, g8, -⟩ := hk1
    have hfb := HBW.out.trans hW12
    clear hW12 g8 g11 g12
    go_wp2
    go_ret
    exact ⟨_, rfl, hfb, rfl⟩
set_option maxHeartbeats 4000000 in
set_option maxRecDepth 100000 in
theorem ptNear_wakes {w : World} (p a b : Rp) (t : Nat) (HFAIR : [p, a, b].all (Rp.ok 6) = false) : Calls Tryz.prog 6 #[.agg (p.row ++ a.row ++ b.row).toArray, .int .u8 (t : Nat)] w (Makes w fun v _ => v = .bool true) := by
  obtain ⟨sp1, pp1, kp1, cp1, qp1, jp1, dp1, sp2, pp2, kp2, cp2, qp2, jp2, dp2⟩ := p
  obtain ⟨sa1, pa1, ka1, ca1, qa1, ja1, da1, sa2, pa2, ka2, ca2, qa2, ja2, da2⟩ := a
  obtain ⟨sb1, pb1, kb1, cb1, qb1, jb1, db1, sb2, pb2, kb2, cb2, qb2, jb2, db2⟩ := b
  change Calls _ _ #[.agg #[.bool sp1, .slice pp1 kp1 cp1, .slice qp1 jp1 dp1, .bool sp2, .slice pp2 kp2 cp2, .slice qp2 jp2 dp2, .bool sa1, .slice pa1 ka1 ca1, .slice qa1 ja1 da1, .bool sa2, .slice pa2 ka2 ca2, .slice qa2 ja2 da2, .bool sb1, .slice pb1 kb1 cb1, .slice qb1 jb1 db1, .bool sb2, .slice pb2 kb2 cb2, .slice qb2 jb2 db2], _] _ _
  have HC2_4 : Hid (∀ X u0, RpSl [⟨sp1, pp1, kp1, cp1, qp1, jp1, dp1, sp2, pp2, kp2, cp2, qp2, jp2, dp2⟩, ⟨sa1, pa1, ka1, ca1, qa1, ja1, da1, sa2, pa2, ka2, ca2, qa2, ja2, da2⟩, ⟨sb1, pb1, kb1, cb1, qb1, jb1, db1, sb2, pb2, kb2, cb2, qb2, jb2, db2⟩] u0 X → Calls Tryz.prog 12 #[u0] X (Makes X fun v _ => v = .bool false)) := fun X u0 h0 => au_fair h0 (by simp) HFAIR
  have HC3_0 : Hid (∀ X, Calls Tryz.prog 14 #[] X (Makes X fun v _ => v = .bool true)) := fun X => wakes06_any X
  go_enter Tryz.func6, Tryz.ntmps6
  go_upto_region 1 with fail
  obtain ⟨hXL, hbw⟩ := boxes1 w (.cells #[.bool sp1, .slice pp1 kp1 cp1, .slice qp1 jp1 dp1, .bool sp2, .slice pp2 kp2 cp2, .slice qp2 jp2 dp2, .bool sa1, .slice pa1 ka1 ca1, .slice qa1 ja1 da1, .bool sa2, .slice pa2 ka2 ca2, .slice qa2 ja2 da2, .bool sb1, .slice pb1 kb1 cb1, .slice qb1 jb1 db1, .bool sb2, .slice pb2 kb2 cb2, .slice qb2 jb2 db2] 65)
  obtain ⟨W, hW⟩ : ∃ W, w.alloc (.cells #[.bool sp1, .slice pp1 kp1 cp1, .slice qp1 jp1 dp1, .bool sp2, .slice pp2 kp2 cp2, .slice qp2 jp2 dp2, .bool sa1, .slice pa1 ka1 ca1, .slice qa1 ja1 da1, .bool sa2, .slice pa2 ka2 ca2, .slice qa2 ja2 da2, .bool sb1, .slice pb1 kb1 cb1, .slice qb1 jb1 db1, .bool sb2, .slice pb2 kb2 cb2, .slice qb2 jb2 db2] 65) = W := ⟨_, rfl⟩
  rw [hW] at hXL hbw ⊢
  obtain ⟨XL, eXL⟩ : ∃ X, w.heap.size = X := ⟨_, rfl⟩
  rw [eXL]
  rw [eXL] at hXL
  have HXL := Lib.hid hXL
  have HBW := Lib.hid hbw
  have HGEXL : Hid (w.heap.size ≤ XL) := by unfold Hid; omega
  clear hW hbw hXL eXL
  refine region_flowT 9 [2, 3, 4, 5] [6, 7, 8] [[], [0], [], [2], [], [4], [], [], []] [.is (.pointer (some ⟨XL, 0, none⟩)), .is (.agg #[.bool sp1, .slice pp1 kp1 cp1, .slice qp1 jp1 dp1, .bool sp2, .slice pp2 kp2 cp2, .slice qp2 jp2 dp2]), .is (.pointer (some ⟨XL, 6, none⟩)), .is (.agg #[.bool sa1, .slice pa1 ka1 ca1, .slice qa1 ja1 da1, .bool sa2, .slice pa2 ka2 ca2, .slice qa2 ja2 da2]), .is (.pointer (some ⟨XL, 12, none⟩)), .is (.agg #[.bool sb1, .slice pb1 kb1 cb1, .slice qb1 jb1 db1, .bool sb2, .slice pb2 kb2 cb2, .slice qb2 jb2 db2]), .has (fun v w => NewBox W 28 #[.bool false, .slice none 0 0, .slice none 0 0, .bool false, .slice none 0 0, .slice none 0 0] v w), .has (fun v w => NewBox W 28 #[.bool false, .slice none 0 0, .slice none 0 0, .bool false, .slice none 0 0, .slice none 0 0] v w), .has (fun v w => NewBox W 28 #[.bool false, .slice none 0 0, .slice none 0 0, .bool false, .slice none 0 0, .slice none 0 0] v w)] (by kernel_rfl) (by kernel_rfl) rfl (by intro j hj; simp only [List.mem_cons, List.not_mem_nil, or_false] at hj; rcases hj with rfl | rfl | rfl | rfl <;> exact ⟨_, rfl⟩) (by intro j hj; simp only [List.mem_cons, List.not_mem_nil, or_false] at hj; rcases hj with rfl | rfl | rfl <;> exact ⟨_, _, rfl, (fun e w => by go_simp; exact ⟨_, rfl, Nat.le_refl _⟩), rfl, NewBox.lies⟩) (by simp only [Steady]; exact ⟨fun _ _ _ h hb => h.bel hb, fun _ _ _ h hb => h.bel hb, fun _ _ _ h hb => h.bel hb, trivial⟩) ?_
  simp only [List.take_succ_cons, List.take_zero, List.drop_succ_cons, List.drop_zero]
  refine hV (by rfl) (by rfl) (by intro w1 hw1 hk1; go_simp) ?_
  simp only [Act.put, sA, sB, sC]
  refine hV (by rfl) (by rfl) (by intro w1 hw1 hk1; have c0 : w1.cell? ⟨XL, 0, none⟩ = some (.bool sp1) := (heap_cell (hw1.heap HXL.out) 0).trans rfl; have c1 : w1.cell? ⟨XL, 1, none⟩ = some (.slice pp1 kp1 cp1) := (heap_cell (hw1.heap HXL.out) 1).trans rfl; have c2 : w1.cell? ⟨XL, 2, none⟩ = some (.slice qp1 jp1 dp1) := (heap_cell (hw1.heap HXL.out) 2).trans rfl; have c3 : w1.cell? ⟨XL, 3, none⟩ = some (.bool sp2) := (heap_cell (hw1.heap HXL.out) 3).trans rfl; have c4 : w1.cell? ⟨XL, 4, none⟩ = some (.slice pp2 kp2 cp2) := (heap_cell (hw1.heap HXL.out) 4).trans rfl; have c5 : w1.cell? ⟨XL, 5, none⟩ = some (.slice qp2 jp2 dp2) := (heap_cell (hw1.heap HXL.out) 5).trans rfl; go_simp) ?_
  simp only [Act.put, sA, sB, sC]
  refine hR (by rfl) (by rfl) (by intro w2 hw2 hk1 w1 hw1; go_simp) ?_
  simp only [Act.put, sA, sB, sC]
  refine hR (by rfl) (by rfl) (by intro w2 hw2 hk1 w1 hw1; have c6 : w1.cell? ⟨XL, 6, none⟩ = some (.bool sa1) := (heap_cell (hw1.heap HXL.out) 6).trans rfl; have c7 : w1.cell? ⟨XL, 7, none⟩ = some (.slice pa1 ka1 ca1) := (heap_cell (hw1.heap HXL.out) 7).trans rfl; have c8 : w1.cell? ⟨XL, 8, none⟩ = some (.slice qa1 ja1 da1) := (heap_cell (hw1.heap HXL.out) 8).trans rfl; have c9 : w1.cell? ⟨XL, 9, none⟩ = some (.bool sa2) := (heap_cell (hw1.heap HXL.out) 9).trans rfl; have c10 : w1.cell? ⟨XL, 10, none⟩ = some (.slice pa2 ka2 ca2) := (heap_cell (hw1.heap HXL.out) 10).trans rfl; have c11 : w1.cell? ⟨XL, 11, none⟩ = some (.slice qa2 ja2 da2) := (heap_cell (hw1.heap HXL.out) 11).trans rfl; go_simp) ?_
  simp only [Act.put, sA, sB, sC]
  refine hR (by rfl) (by rfl) (by intro w2 hw2 hk1 w1 hw1; go_simp) ?_
  simp only [Act.put, sA, sB, sC]
  refine hR (by rfl) (by rfl) (by intro w2 hw2 hk1 w1 hw1; have c12 : w1.cell? ⟨XL, 12, none⟩ = some (.bool sb1) := (heap_cell (hw1.heap HXL.out) 12).trans rfl; have c13 : w1.cell? ⟨XL, 13, none⟩ = some (.slice pb1 kb1 cb1) := (heap_cell (hw1.heap HXL.out) 13).trans rfl; have c14 : w1.cell? ⟨XL, 14, none⟩ = some (.slice qb1 jb1 db1) := (heap_cell (hw1.heap HXL.out) 14).trans rfl; have c15 : w1.cell? ⟨XL, 15, none⟩ = some (.bool sb2) := (heap_cell (hw1.heap HXL.out) 15).trans rfl; have c16 : w1.cell? ⟨XL, 16, none⟩ = some (.slice pb2 kb2 cb2) := (heap_cell (hw1.heap HXL.out) 16).trans rfl; have c17 : w1.cell? ⟨XL, 17, none⟩ = some (.slice qb2 jb2 db2) := (heap_cell (hw1.heap HXL.out) 17).trans rfl; go_simp) ?_
  simp only [Act.put, sA, sB, sC]
  refine flowT_has (by intro w1 hw1 hk1; refine want (by rfl) (gives_new (c := .pointer (some ⟨w1.heap.size, 0, none⟩)) (w' := w1.alloc (.cells #[.bool false, .slice none 0 0, .slice none 0 0, .bool false, .slice none 0 0, .slice none 0 0] 28)) (by go_simp) ((Bel.refl w1).alloc _) ?_); exact NewBox.new hw1) (fun v6 => ?_)
  simp only [Act.put, sA, sB, sC]
  refine flowT_has (by intro w1 hw1 hk1; refine want (by rfl) (gives_new (c := .pointer (some ⟨w1.heap.size, 0, none⟩)) (w' := w1.alloc (.cells #[.bool false, .slice none 0 0, .slice none 0 0, .bool false, .slice none 0 0, .slice none 0 0] 28)) (by go_simp) ((Bel.refl w1).alloc _) ?_); exact NewBox.new hw1) (fun v7 => ?_)
  simp only [Act.put, sA, sB, sC]
  refine flowT_has (by intro w1 hw1 hk1; refine want (by rfl) (gives_new (c := .pointer (some ⟨w1.heap.size, 0, none⟩)) (w' := w1.alloc (.cells #[.bool false, .slice none 0 0, .slice none 0 0, .bool false, .slice none 0 0, .slice none 0 0] 28)) (by go_simp) ((Bel.refl w1).alloc _) ?_); exact NewBox.new hw1) (fun v8 => ?_)
  simp only [Act.put, sA, sB, sC]
  intro W1 hW1 hk1 hap
  obtain ⟨g8, g7, g6, -⟩ := hk1
  have hnn6 := g6
  have hnn7 := g7
  have hnn8 := g8
  have hne7_6 := hap.2.1.1
  have hne8_6 := hap.1.2.1
  have hne8_7 := hap.1.1
  clear g6 g7 g8
  obtain ⟨X1_6, rfl, hgeX1_6, hxX1_6⟩ := hnn6
  obtain ⟨X1_7, rfl, hgeX1_7, hxX1_7⟩ := hnn7
  obtain ⟨X1_8, rfl, hgeX1_8, hxX1_8⟩ := hnn8
  have hxe7_6 : X1_7 ≠ X1_6 := fun e => hne7_6 (by rw [e])
  clear hne7_6
  have hxe8_6 : X1_8 ≠ X1_6 := fun e => hne8_6 (by rw [e])
  clear hne8_6
  have hxe8_7 : X1_8 ≠ X1_7 := fun e => hne8_7 (by rw [e])
  clear hne8_7
  have hy0 := hxX1_6
  refine tail_store (setAll W1 X1_6 0 [.bool sp1, .slice pp1 kp1 cp1, .slice qp1 jp1 dp1, .bool sp2, .slice pp2 kp2 cp2, .slice qp2 jp2 dp2]) rfl (by rfl) ?_ (stoBel (hW1) hy0 rfl rfl hgeX1_6) ?_
  · have dd0 : (W1).cell? ⟨X1_6, 0, none⟩ = some (.bool false) := (heap_cell hy0 0).trans rfl; have ff0 := heap_frozen hy0 0; have dd1 : (W1).cell? ⟨X1_6, 1, none⟩ = some (.slice none 0 0) := (heap_cell hy0 1).trans rfl; have ff1 := heap_frozen hy0 1; have dd2 : (W1).cell? ⟨X1_6, 2, none⟩ = some (.slice none 0 0) := (heap_cell hy0 2).trans rfl; have ff2 := heap_frozen hy0 2; have dd3 : (W1).cell? ⟨X1_6, 3, none⟩ = some (.bool false) := (heap_cell hy0 3).trans rfl; have ff3 := heap_frozen hy0 3; have dd4 : (W1).cell? ⟨X1_6, 4, none⟩ = some (.slice none 0 0) := (heap_cell hy0 4).trans rfl; have ff4 := heap_frozen hy0 4; have dd5 : (W1).cell? ⟨X1_6, 5, none⟩ = some (.slice none 0 0) := (heap_cell hy0 5).trans rfl; have ff5 := heap_frozen hy0 5; simp only [setAll, Nat.reduceAdd] at *; go_simp
  clear hy0
  have ht0 := sto (w := W) (t := 28) [.bool sp1, .slice pp1 kp1 cp1, .slice qp1 jp1 dp1, .bool sp2, .slice pp2 kp2 cp2, .slice qp2 jp2 dp2] (hxX1_6) rfl rfl (hW1) hgeX1_6
  have hy1 := ht0.oth _ _ (hxe7_6) (hxX1_7)
  refine tail_store (setAll (setAll W1 X1_6 0 [.bool sp1, .slice pp1 kp1 cp1, .slice qp1 jp1 dp1, .bool sp2, .slice pp2 kp2 cp2, .slice qp2 jp2 dp2]) X1_7 0 [.bool sa1, .slice pa1 ka1 ca1, .slice qa1 ja1 da1, .bool sa2, .slice pa2 ka2 ca2, .slice qa2 ja2 da2]) rfl (by rfl) ?_ (stoBel (ht0.bel) hy1 rfl rfl hgeX1_7) ?_
  · have dd0 : (setAll W1 X1_6 0 [.bool sp1, .slice pp1 kp1 cp1, .slice qp1 jp1 dp1, .bool sp2, .slice pp2 kp2 cp2, .slice qp2 jp2 dp2]).cell? ⟨X1_7, 0, none⟩ = some (.bool false) := (heap_cell hy1 0).trans rfl; have ff0 := heap_frozen hy1 0; have dd1 : (setAll W1 X1_6 0 [.bool sp1, .slice pp1 kp1 cp1, .slice qp1 jp1 dp1, .bool sp2, .slice pp2 kp2 cp2, .slice qp2 jp2 dp2]).cell? ⟨X1_7, 1, none⟩ = some (.slice none 0 0) := (heap_cell hy1 1).trans rfl; have ff1 := heap_frozen hy1 1; have dd2 : (setAll W1 X1_6 0 [.bool sp1, .slice pp1 kp1 cp1, .slice qp1 jp1 dp1, .bool sp2, .slice pp2 kp2 cp2, .slice qp2 jp2 dp2]).cell? ⟨X1_7, 2, none⟩ = some (.slice none 0 0) := (heap_cell hy1 2).trans rfl; have ff2 := heap_frozen hy1 2; have dd3 : (setAll W1 X1_6 0 [.bool sp1, .slice pp1 kp1 cp1, .slice qp1 jp1 dp1, .bool sp2, .slice pp2 kp2 cp2, .slice qp2 jp2 dp2]).cell? ⟨X1_7, 3, none⟩ = some (.bool false) := (heap_cell hy1 3).trans rfl; have ff3 := heap_frozen hy1 3; have dd4 : (setAll W1 X1_6 0 [.bool sp1, .slice pp1 kp1 cp1, .slice qp1 jp1 dp1, .bool sp2, .slice pp2 kp2 cp2, .slice qp2 jp2 dp2]).cell? ⟨X1_7, 4, none⟩ = some (.slice none 0 0) := (heap_cell hy1 4).trans rfl; have ff4 := heap_frozen hy1 4; have dd5 : (setAll W1 X1_6 0 [.bool sp1, .slice pp1 kp1 cp1, .slice qp1 jp1 dp1, .bool sp2, .slice pp2 kp2 cp2, .slice qp2 jp2 dp2]).cell? ⟨X1_7, 5, none⟩ = some (.slice none 0 0) := (heap_cell hy1 5).trans rfl; have ff5 := heap_frozen hy1 5; simp only [setAll, Nat.reduceAdd] at *; go_simp
  clear hy1
  have ht1 := sto (w := W) (t := 28) [.bool sa1, .slice pa1 ka1 ca1, .slice qa1 ja1 da1, .bool sa2, .slice pa2 ka2 ca2, .slice qa2 ja2 da2] (ht0.oth _ _ (hxe7_6) (hxX1_7)) rfl rfl (ht0.bel) hgeX1_7
  have hy2 := ht1.oth _ _ (hxe8_7) (ht0.oth _ _ (hxe8_6) (hxX1_8))
  refine tail_store (setAll (setAll (setAll W1 X1_6 0 [.bool sp1, .slice pp1 kp1 cp1, .slice qp1 jp1 dp1, .bool sp2, .slice pp2 kp2 cp2, .slice qp2 jp2 dp2]) X1_7 0 [.bool sa1, .slice pa1 ka1 ca1, .slice qa1 ja1 da1, .bool sa2, .slice pa2 ka2 ca2, .slice qa2 ja2 da2]) X1_8 0 [.bool sb1, .slice pb1 kb1 cb1, .slice qb1 jb1 db1, .bool sb2, .slice pb2 kb2 cb2, .slice qb2 jb2 db2]) rfl (by rfl) ?_ (stoBel (ht1.bel) hy2 rfl rfl hgeX1_8) ?_
  · have dd0 : (setAll (setAll W1 X1_6 0 [.bool sp1, .slice pp1 kp1 cp1, .slice qp1 jp1 dp1, .bool sp2, .slice pp2 kp2 cp2, .slice qp2 jp2 dp2]) X1_7 0 [.bool sa1, .slice pa1 ka1 ca1, .slice qa1 ja1 da1, .bool sa2, .slice pa2 ka2 ca2, .slice qa2 ja2 da2]).cell? ⟨X1_8, 0, none⟩ = some (.bool false) := (heap_cell hy2 0).trans rfl; have ff0 := heap_frozen hy2 0; have dd1 : (setAll (setAll W1 X1_6 0 [.bool sp1, .slice pp1 kp1 cp1, .slice qp1 jp1 dp1, .bool sp2, .slice pp2 kp2 cp2, .slice qp2 jp2 dp2]) X1_7 0 [.bool sa1, .slice pa1 ka1 ca1, .slice qa1 ja1 da1, .bool sa2, .slice pa2 ka2 ca2, .slice qa2 ja2 da2]).cell? ⟨X1_8, 1, none⟩ = some (.slice none 0 0) := (heap_cell hy2 1).trans rfl; have ff1 := heap_frozen hy2 1; have dd2 : (setAll (setAll W1 X1_6 0 [.bool sp1, .slice pp1 kp1 cp1, .slice qp1 jp1 dp1, .bool sp2, .slice pp2 kp2 cp2, .slice qp2 jp2 dp2]) X1_7 0 [.bool sa1, .slice pa1 ka1 ca1, .slice qa1 ja1 da1, .bool sa2, .slice pa2 ka2 ca2, .slice qa2 ja2 da2]).cell? ⟨X1_8, 2, none⟩ = some (.slice none 0 0) := (heap_cell hy2 2).trans rfl; have ff2 := heap_frozen hy2 2; have dd3 : (setAll (setAll W1 X1_6 0 [.bool sp1, .slice pp1 kp1 cp1, .slice qp1 jp1 dp1, .bool sp2, .slice pp2 kp2 cp2, .slice qp2 jp2 dp2]) X1_7 0 [.bool sa1, .slice pa1 ka1 ca1, .slice qa1 ja1 da1, .bool sa2, .slice pa2 ka2 ca2, .slice qa2 ja2 da2]).cell? ⟨X1_8, 3, none⟩ = some (.bool false) := (heap_cell hy2 3).trans rfl; have ff3 := heap_frozen hy2 3; have dd4 : (setAll (setAll W1 X1_6 0 [.bool sp1, .slice pp1 kp1 cp1, .slice qp1 jp1 dp1, .bool sp2, .slice pp2 kp2 cp2, .slice qp2 jp2 dp2]) X1_7 0 [.bool sa1, .slice pa1 ka1 ca1, .slice qa1 ja1 da1, .bool sa2, .slice pa2 ka2 ca2, .slice qa2 ja2 da2]).cell? ⟨X1_8, 4, none⟩ = some (.slice none 0 0) := (heap_cell hy2 4).trans rfl; have ff4 := heap_frozen hy2 4; have dd5 : (setAll (setAll W1 X1_6 0 [.bool sp1, .slice pp1 kp1 cp1, .slice qp1 jp1 dp1, .bool sp2, .slice pp2 kp2 cp2, .slice qp2 jp2 dp2]) X1_7 0 [.bool sa1, .slice pa1 ka1 ca1, .slice qa1 ja1 da1, .bool sa2, .slice pa2 ka2 ca2, .slice qa2 ja2 da2]).cell? ⟨X1_8, 5, none⟩ = some (.slice none 0 0) := (heap_cell hy2 5).trans rfl; have ff5 := heap_frozen hy2 5; simp only [setAll, Nat.reduceAdd] at *; go_simp
  clear hy2
  have ht2 := sto (w := W) (t := 28) [.bool sb1, .slice pb1 kb1 cb1, .slice qb1 jb1 db1, .bool sb2, .slice pb2 kb2 cb2, .slice qb2 jb2 db2] (ht1.oth _ _ (hxe8_7) (ht0.oth _ _ (hxe8_6) (hxX1_8))) rfl rfl (ht1.bel) hgeX1_8
  obtain ⟨W2, hW2⟩ : ∃ W', setAll (setAll (setAll W1 X1_6 0 [.bool sp1, .slice pp1 kp1 cp1, .slice qp1 jp1 dp1, .bool sp2, .slice pp2 kp2 cp2, .slice qp2 jp2 dp2]) X1_7 0 [.bool sa1, .slice pa1 ka1 ca1, .slice qa1 ja1 da1, .bool sa2, .slice pa2 ka2 ca2, .slice qa2 ja2 da2]) X1_8 0 [.bool sb1, .slice pb1 kb1 cb1, .slice qb1 jb1 db1, .bool sb2, .slice pb2 kb2 cb2, .slice qb2 jb2 db2] = W' := ⟨_, rfl⟩
  rw [hW2]
  refine tail_end ?_
  go_upto_region 2 with fail
  have hb2 := ht2.bel
  rw [hW2] at hb2
  have HX1_6 := ht2.oth _ _ ((Ne.symm hxe8_6)) (ht1.oth _ _ ((Ne.symm hxe7_6)) (ht0.heap))
  rw [hW2] at HX1_6
  replace HX1_6 := Lib.hid HX1_6
  have HX1_7 := ht2.oth _ _ ((Ne.symm hxe8_7)) (ht1.heap)
  rw [hW2] at HX1_7
  replace HX1_7 := Lib.hid HX1_7
  have HX1_8 := ht2.heap
  rw [hW2] at HX1_8
  replace HX1_8 := Lib.hid HX1_8
  have hgwX1_6 : w.heap.size ≤ X1_6 := Nat.le_trans HBW.out.size hgeX1_6
  have hgwX1_7 : w.heap.size ≤ X1_7 := Nat.le_trans HBW.out.size hgeX1_7
  have hgwX1_8 : w.heap.size ≤ X1_8 := Nat.le_trans HBW.out.size hgeX1_8
  replace HBW := Lib.hid (HBW.out.trans hb2)
  have HBW_ := Lib.hid hb2
  clear hW1 hxX1_6 hxX1_7 hxX1_8 hgeX1_6 hgeX1_7 hgeX1_8 hxe7_6 hxe8_6 hxe8_7 hap hb2 hW2 ht0 ht1 ht2
  refine line_region 6 [[], [], [], [0, 1, 2], [3], [4]] [.is (.agg #[.bool sp1, .slice pp1 kp1 cp1, .slice qp1 jp1 dp1, .bool sp2, .slice pp2 kp2 cp2, .slice qp2 jp2 dp2]), .is (.agg #[.bool sa1, .slice pa1 ka1 ca1, .slice qa1 ja1 da1, .bool sa2, .slice pa2 ka2 ca2, .slice qa2 ja2 da2]), .is (.agg #[.bool sb1, .slice pb1 kb1 cb1, .slice qb1 jb1 db1, .bool sb2, .slice pb2 kb2 cb2, .slice qb2 jb2 db2]), .has (fun v w => RpSl [⟨sp1, pp1, kp1, cp1, qp1, jp1, dp1, sp2, pp2, kp2, cp2, qp2, jp2, dp2⟩, ⟨sa1, pa1, ka1, ca1, qa1, ja1, da1, sa2, pa2, ka2, ca2, qa2, ja2, da2⟩, ⟨sb1, pb1, kb1, cb1, qb1, jb1, db1, sb2, pb2, kb2, cb2, qb2, jb2, db2⟩] v w), .is (.bool false), .is (.bool true)] rfl rfl (by decide) (by simp only [Steady]; exact ⟨fun _ _ _ h hb => h.bel hb, trivial⟩) ?_
  simp only [List.take_succ_cons, List.take_zero, List.drop_succ_cons, List.drop_zero]
  refine fV (by rfl) (by intro w1 hw1 hk1; obtain ⟨c0, c1, c2, c3, c4, c5⟩ := boxc6 (hw1.heap HX1_6.out); go_simp) ?_
  simp only [Act.put, sA, sB, sC]
  refine fV (by rfl) (by intro w1 hw1 hk1; obtain ⟨c0, c1, c2, c3, c4, c5⟩ := boxc6 (hw1.heap HX1_7.out); go_simp) ?_
  simp only [Act.put, sA, sB, sC]
  refine fV (by rfl) (by intro w1 hw1 hk1; obtain ⟨c0, c1, c2, c3, c4, c5⟩ := boxc6 (hw1.heap HX1_8.out); go_simp) ?_
  simp only [Act.put, sA, sB, sC]
  refine flow_has (by intro w1 hw1 hk1; refine want (by rfl) (gives_new (c := .slice (some ⟨w1.heap.size, 0, none⟩) 3 3) (w' := w1.alloc (.cells #[.bool sp1, .slice pp1 kp1 cp1, .slice qp1 jp1 dp1, .bool sp2, .slice pp2 kp2 cp2, .slice qp2 jp2 dp2, .bool sa1, .slice pa1 ka1 ca1, .slice qa1 ja1 da1, .bool sa2, .slice pa2 ka2 ca2, .slice qa2 ja2 da2, .bool sb1, .slice pb1 kb1 cb1, .slice qb1 jb1 db1, .bool sb2, .slice pb2 kb2 cb2, .slice qb2 jb2 db2] 28)) (by go_simp) ((Bel.refl w1).alloc _) (RpSl.new [⟨sp1, pp1, kp1, cp1, qp1, jp1, dp1, sp2, pp2, kp2, cp2, qp2, jp2, dp2⟩, ⟨sa1, pa1, ka1, ca1, qa1, ja1, da1, sa2, pa2, ka2, ca2, qa2, ja2, da2⟩, ⟨sb1, pb1, kb1, cb1, qb1, jb1, db1, sb2, pb2, kb2, cb2, qb2, jb2, db2⟩] w1))) (fun v3 => ?_)
  simp only [Act.put, sA, sB, sC]
  refine fC (by rfl) (by intro w1 hw1 hk1; obtain ⟨g3, -⟩ := hk1; exact HC2_4.out _ _ g3) (by intro; go_simp) ?_
  simp only [Act.put, sA, sB, sC]
  refine fV (by rfl) (by intro w1 hw1 hk1; go_simp) ?_
  simp only [Act.put, sA, sB, sC]
  intro W3 hW3 hk1
  obtain ⟨g3, -⟩ := hk1
  have hb2 := hW3
  replace HBW := Lib.hid (HBW.out.trans hb2)
  replace HBW_ := Lib.hid (HBW_.out.trans hb2)
  have HBW2_ := Lib.hid hb2
  clear hW3 g3 hb2
  go_upto_region 3 with fail
  refine line_region 1 [[]] [.is (.bool true)] rfl rfl (by decide) (by simp only [Steady]) ?_
  simp only [List.take_succ_cons, List.take_zero, List.drop_succ_cons, List.drop_zero]
  refine fC (by rfl) (by intro w1 hw1 hk1; exact HC3_0.out _) (by intro; go_simp) ?_
  simp only [Act.put, sA, sB, sC]
  intro W4 hW4 hk1
  have hfb := HBW.out.trans hW4
  clear hW4
  go_wp2
  go_ret
  exact ⟨_, rfl, hfb, rfl⟩
end Go.Proofs.YtafmfnpjhhaikaaGreatDoor
