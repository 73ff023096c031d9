/-
  gessolaw06.PtSquares (printed by gen_la.py).
-/
import Derived.Test.YtafmfnpjhhaikaaGreatDoorZaz
namespace Go.Proofs.YtafmfnpjhhaikaaGreatDoor
open Go.RowKit Go.Shelf

set_option maxHeartbeats 4000000 in
set_option maxRecDepth 100000 in
theorem ptSquares_fair {w : World} (p : Rp) (q : Rp) {xp yp : Rat} {xq yq : Rat} (hp : PS 6 w (.agg p.row.toArray) xp yp) (hq : PS 6 w (.agg q.row.toArray) xq yq) (HFAIR : [p, q].all (Rp.ok 6) = true) : Calls Tryz.prog 7 #[.agg p.row.toArray, .agg q.row.toArray] w (Makes w fun v _ => v = .bool true) := by
  obtain ⟨sp1, pp1, kp1, cp1, qp1, jp1, dp1, sp2, pp2, kp2, cp2, qp2, jp2, dp2⟩ := p
  obtain ⟨sq1, pq1, kq1, cq1, qq1, jq1, dq1, sq2, pq2, kq2, cq2, qq2, jq2, dq2⟩ := q
  replace hp : PS 6 w (.agg #[.bool sp1, .slice pp1 kp1 cp1, .slice qp1 jp1 dp1, .bool sp2, .slice pp2 kp2 cp2, .slice qp2 jp2 dp2]) xp yp := hp
  replace hq : PS 6 w (.agg #[.bool sq1, .slice pq1 kq1 cq1, .slice qq1 jq1 dq1, .bool sq2, .slice pq2 kq2 cq2, .slice qq2 jq2 dq2]) xq yq := hq
  change Calls _ _ #[.agg #[.bool sp1, .slice pp1 kp1 cp1, .slice qp1 jp1 dp1, .bool sp2, .slice pp2 kp2 cp2, .slice qp2 jp2 dp2], .agg #[.bool sq1, .slice pq1 kq1 cq1, .slice qq1 jq1 dq1, .bool sq2, .slice pq2 kq2 cq2, .slice qq2 jq2 dq2]] _ _
  have HPp := Lib.hid hp
  have HPp1 := Lib.hid hp.split.1
  have HPp2 := Lib.hid hp.split.2
  clear hp
  have HPq := Lib.hid hq
  have HPq1 := Lib.hid hq.split.1
  have HPq2 := Lib.hid hq.split.2
  clear hq
  have HC1_3 : Hid (∀ X u0, RpSl [⟨sp1, pp1, kp1, cp1, qp1, jp1, dp1, sp2, pp2, kp2, cp2, qp2, jp2, dp2⟩, ⟨sq1, pq1, kq1, cq1, qq1, jq1, dq1, sq2, pq2, kq2, cq2, qq2, jq2, dq2⟩] u0 X → Calls Tryz.prog 12 #[u0] X (Makes X fun v _ => v = .bool true)) := fun X u0 h0 => au_fair h0 (by simp) HFAIR
  obtain ⟨R1, hR1⟩ : ∃ Z, xp * xq + yp * yq = Z := ⟨_, rfl⟩
  have HC3_2 : Hid (∀ X u0 u1, PS 6 X u0 xp yp → PS 6 X u1 xq yq → Calls Tryz.prog 30 #[u0, u1] X (Makes X fun v w => RN 25 w v R1)) := fun X u0 u1 h0 h1 => by subst hR1; exact au_dot (i := 6) (j := 6) h0 h1 (by decide)
  obtain ⟨R2, hR2⟩ : ∃ Z, xp * yq - yp * xq = Z := ⟨_, rfl⟩
  have HC3_5 : Hid (∀ X u0 u1, PS 6 X u0 xp yp → PS 6 X u1 xq yq → Calls Tryz.prog 32 #[u0, u1] X (Makes X fun v w => RN 25 w v R2)) := fun X u0 u1 h0 h1 => by subst hR2; exact au_cross (i := 6) (j := 6) h0 h1 (by decide)
  obtain ⟨R3, hR3⟩ : ∃ Z, R1 * R1 = Z := ⟨_, rfl⟩
  have HC4_2 : Hid (∀ X u0 u1, RN 25 X u0 R1 → RN 25 X u1 R1 → Calls Tryz.prog 48 #[u0, u1] X (Makes X fun v w => RN 50 w v R3)) := fun X u0 u1 h0 h1 => by subst hR3; exact au_rmul (i := 25) (j := 25) (h0.rs (by decide)) (h1.rs (by decide)) (by decide)
  obtain ⟨R4, hR4⟩ : ∃ Z, R2 * R2 = Z := ⟨_, rfl⟩
  have HC4_5 : Hid (∀ X u0 u1, RN 25 X u0 R2 → RN 25 X u1 R2 → Calls Tryz.prog 48 #[u0, u1] X (Makes X fun v w => RN 50 w v R4)) := fun X u0 u1 h0 h1 => by subst hR4; exact au_rmul (i := 25) (j := 25) (h0.rs (by decide)) (h1.rs (by decide)) (by decide)
  obtain ⟨R5, hR5⟩ : ∃ Z, R3 + R4 = Z := ⟨_, rfl⟩
  have HC4_6 : Hid (∀ X u0 u1, RN 50 X u0 R3 → RN 50 X u1 R4 → Calls Tryz.prog 47 #[u0, u1] X (Makes X fun v w => RN 101 w v R5)) := fun X u0 u1 h0 h1 => by subst hR5; exact au_radd (i := 50) (j := 50) (h0.rs (by decide)) (h1.rs (by decide)) (by decide)
  obtain ⟨R6, hR6⟩ : ∃ Z, xp - xq = Z := ⟨_, rfl⟩
  have HC5_4 : Hid (∀ X u0 u1, RS 6 X u0 xp → RS 6 X u1 xq → Calls Tryz.prog 49 #[u0, u1] X (Makes X fun v w => RN 13 w v R6)) := fun X u0 u1 h0 h1 => by subst hR6; exact au_rsub (i := 6) (j := 6) h0 h1 (by decide)
  obtain ⟨R7, hR7⟩ : ∃ Z, yp - yq = Z := ⟨_, rfl⟩
  have HC5_9 : Hid (∀ X u0 u1, RS 6 X u0 yp → RS 6 X u1 yq → Calls Tryz.prog 49 #[u0, u1] X (Makes X fun v w => RN 13 w v R7)) := fun X u0 u1 h0 h1 => by subst hR7; exact au_rsub (i := 6) (j := 6) h0 h1 (by decide)
  obtain ⟨R8, hR8⟩ : ∃ Z, xp * xp + yp * yp = Z := ⟨_, rfl⟩
  have HC6_3 : Hid (∀ X u0 u1, PS 6 X u0 xp yp → PS 6 X u1 xp yp → Calls Tryz.prog 30 #[u0, u1] X (Makes X fun v w => RN 25 w v R8)) := fun X u0 u1 h0 h1 => by subst hR8; exact au_dot (i := 6) (j := 6) h0 h1 (by decide)
  obtain ⟨R9, hR9⟩ : ∃ Z, xq * xq + yq * yq = Z := ⟨_, rfl⟩
  have HC6_6 : Hid (∀ X u0 u1, PS 6 X u0 xq yq → PS 6 X u1 xq yq → Calls Tryz.prog 30 #[u0, u1] X (Makes X fun v w => RN 25 w v R9)) := fun X u0 u1 h0 h1 => by subst hR9; exact au_dot (i := 6) (j := 6) h0 h1 (by decide)
  obtain ⟨R10, hR10⟩ : ∃ Z, R8 * R9 = Z := ⟨_, rfl⟩
  have HC6_7 : Hid (∀ X u0 u1, RN 25 X u0 R8 → RN 25 X u1 R9 → Calls Tryz.prog 48 #[u0, u1] X (Makes X fun v w => RN 50 w v R10)) := fun X u0 u1 h0 h1 => by subst hR10; exact au_rmul (i := 25) (j := 25) (h0.rs (by decide)) (h1.rs (by decide)) (by decide)
  obtain ⟨C1, hC1⟩ : ∃ Z, cmpR R5 R10 = Z := ⟨_, rfl⟩
  have HC6_8 : Hid (∀ X u0 u1, RN 101 X u0 R5 → RN 50 X u1 R10 → Calls Tryz.prog 44 #[u0, u1] X (Makes X fun v _ => v = .int .i64 C1)) := fun X u0 u1 h0 h1 => by subst hC1; exact mk_rcmp (i := 101) (j := 50) (h0.rs (by decide)) (h1.rs (by decide)) (by decide)
  obtain ⟨R11, hR11⟩ : ∃ Z, farR xp yp xq yq = Z := ⟨_, rfl⟩
  have HC6_13 : Hid (∀ X u0 u1, PS 6 X u0 xp yp → PS 6 X u1 xq yq → Calls Tryz.prog 39 #[u0, u1] X (Makes X fun v w => RN 53 w v R11)) := fun X u0 u1 h0 h1 => by subst hR11; exact au_far (i := 6) (j := 6) h0 h1 (by decide)
  obtain ⟨R12, hR12⟩ : ∃ Z, R6 * R6 = Z := ⟨_, rfl⟩
  have HC6_16 : Hid (∀ X u0 u1, RN 13 X u0 R6 → RN 13 X u1 R6 → Calls Tryz.prog 48 #[u0, u1] X (Makes X fun v w => RN 26 w v R12)) := fun X u0 u1 h0 h1 => by subst hR12; exact au_rmul (i := 13) (j := 13) (h0.rs (by decide)) (h1.rs (by decide)) (by decide)
  obtain ⟨R13, hR13⟩ : ∃ Z, R7 * R7 = Z := ⟨_, rfl⟩
  have HC6_19 : Hid (∀ X u0 u1, RN 13 X u0 R7 → RN 13 X u1 R7 → Calls Tryz.prog 48 #[u0, u1] X (Makes X fun v w => RN 26 w v R13)) := fun X u0 u1 h0 h1 => by subst hR13; exact au_rmul (i := 13) (j := 13) (h0.rs (by decide)) (h1.rs (by decide)) (by decide)
  obtain ⟨R14, hR14⟩ : ∃ Z, R12 + R13 = Z := ⟨_, rfl⟩
  have HC6_20 : Hid (∀ X u0 u1, RN 26 X u0 R12 → RN 26 X u1 R13 → Calls Tryz.prog 47 #[u0, u1] X (Makes X fun v w => RN 53 w v R14)) := fun X u0 u1 h0 h1 => by subst hR14; exact au_radd (i := 26) (j := 26) (h0.rs (by decide)) (h1.rs (by decide)) (by decide)
  obtain ⟨C2, hC2⟩ : ∃ Z, cmpR R11 R14 = Z := ⟨_, rfl⟩
  have HC6_21 : Hid (∀ X u0 u1, RN 53 X u0 R11 → RN 53 X u1 R14 → Calls Tryz.prog 44 #[u0, u1] X (Makes X fun v _ => v = .int .i64 C2)) := fun X u0 u1 h0 h1 => by subst hC2; exact mk_rcmp (i := 53) (j := 53) (h0.rs (by decide)) (h1.rs (by decide)) (by decide)
  obtain ⟨R15, hR15⟩ : ∃ Z, xp * yp - yp * xp = Z := ⟨_, rfl⟩
  have HC6_27 : Hid (∀ X u0 u1, PS 6 X u0 xp yp → PS 6 X u1 xp yp → Calls Tryz.prog 32 #[u0, u1] X (Makes X fun v w => RN 25 w v R15)) := fun X u0 u1 h0 h1 => by subst hR15; exact au_cross (i := 6) (j := 6) h0 h1 (by decide)
  obtain ⟨C3, hC3⟩ : ∃ Z, cmpR R15 0 = Z := ⟨_, rfl⟩
  have HC6_28 : Hid (∀ X u0, RN 25 X u0 R15 → Calls Tryz.prog 46 #[u0] X (Makes X fun v _ => v = .int .i64 C3)) := fun X u0 h0 => by subst hC3; exact mk_rsign ((h0.rs (by decide))).1
  obtain ⟨R16, hR16⟩ : ∃ Z, xq * yp - yq * xp = Z := ⟨_, rfl⟩
  have HC6_34 : Hid (∀ X u0 u1, PS 6 X u0 xq yq → PS 6 X u1 xp yp → Calls Tryz.prog 32 #[u0, u1] X (Makes X fun v w => RN 25 w v R16)) := fun X u0 u1 h0 h1 => by subst hR16; exact au_cross (i := 6) (j := 6) h0 h1 (by decide)
  obtain ⟨R17, hR17⟩ : ∃ Z, -R2 = Z := ⟨_, rfl⟩
  have HC6_36 : Hid (∀ X u0, RN 25 X u0 R2 → Calls Tryz.prog 50 #[u0] X (Makes X fun v w => RN 25 w v R17)) := fun X u0 h0 => by subst hR17; exact au_rneg (i := 25) (h0.rs (by decide)) (by decide)
  obtain ⟨C4, hC4⟩ : ∃ Z, cmpR R16 R17 = Z := ⟨_, rfl⟩
  have HC6_37 : Hid (∀ X u0 u1, RN 25 X u0 R16 → RN 25 X u1 R17 → Calls Tryz.prog 44 #[u0, u1] X (Makes X fun v _ => v = .int .i64 C4)) := fun X u0 u1 h0 h1 => by subst hC4; exact mk_rcmp (i := 25) (j := 25) (h0.rs (by decide)) (h1.rs (by decide)) (by decide)
  obtain ⟨R18, hR18⟩ : ∃ Z, xp + xq = Z := ⟨_, rfl⟩
  obtain ⟨R19, hR19⟩ : ∃ Z, yp + yq = Z := ⟨_, rfl⟩
  have HC6_43 : Hid (∀ X u0 u1, PS 6 X u0 xp yp → PS 6 X u1 xq yq → Calls Tryz.prog 21 #[u0, u1] X (Makes X fun v w => PN 13 w v R18 R19)) := fun X u0 u1 h0 h1 => by subst hR18 hR19; exact au_padd (i := 6) (j := 6) h0 h1 (by decide)
  obtain ⟨R20, hR20⟩ : ∃ Z, R18 - xq = Z := ⟨_, rfl⟩
  obtain ⟨R21, hR21⟩ : ∃ Z, R19 - yq = Z := ⟨_, rfl⟩
  have HC6_45 : Hid (∀ X u0 u1, PN 13 X u0 R18 R19 → PS 6 X u1 xq yq → Calls Tryz.prog 23 #[u0, u1] X (Makes X fun v w => PN 20 w v R20 R21)) := fun X u0 u1 h0 h1 => by subst hR20 hR21; exact au_psub (i := 13) (j := 6) (h0.ps (by decide)) h1 (by decide)
  obtain ⟨C5, hC5⟩ : ∃ Z, decide (R20 = xp ∧ R21 = yp) = Z := ⟨_, rfl⟩
  have HC6_47 : Hid (∀ X u0 u1, PN 20 X u0 R20 R21 → PS 6 X u1 xp yp → Calls Tryz.prog 34 #[u0, u1] X (Makes X fun v _ => v = .bool C5)) := fun X u0 u1 h0 h1 => by subst hC5; exact mk_same (i := 20) (j := 6) (h0.ps (by decide)) h1 (by decide)
  have HC6_50 : Hid (∀ X, Calls Tryz.prog 14 #[] X (Makes X fun v _ => v = .bool true)) := fun X => wakes06_any X
  have HL6_9 : Hid (C1 = 0) := by unfold Hid; subst hC1 hR10 hR9 hR8 hR5 hR4 hR3 hR2 hR1; apply squares1
  have HL6_22 : Hid (C2 = 0) := by unfold Hid; subst hC2 hR14 hR13 hR12 hR11 hR7 hR6; apply squares2
  have HL6_29 : Hid (C3 = 0) := by unfold Hid; subst hC3 hR15; apply squares3
  have HL6_38 : Hid (C4 = 0) := by unfold Hid; subst hC4 hR17 hR16 hR2; apply squares4
  have HL6_47 : Hid (C5 = true) := by unfold Hid; subst hC5 hR21 hR20 hR19 hR18; apply squares5
  clear hR1 hR2 hR3 hR4 hR5 hR6 hR7 hR8 hR9 hR10 hC1 hR11 hR12 hR13 hR14 hC2 hR15 hC3 hR16 hR17 hC4 hR18 hR19 hR20 hR21 hC5
  go_enter Tryz.func7, Tryz.ntmps7
  go_upto_region 1 with fail
  obtain ⟨hXp, hXq, hbw⟩ := boxes2 w (.cells #[.bool sp1, .slice pp1 kp1 cp1, .slice qp1 jp1 dp1, .bool sp2, .slice pp2 kp2 cp2, .slice qp2 jp2 dp2] 28) (.cells #[.bool sq1, .slice pq1 kq1 cq1, .slice qq1 jq1 dq1, .bool sq2, .slice pq2 kq2 cq2, .slice qq2 jq2 dq2] 28)
  obtain ⟨W, hW⟩ : ∃ W, (w.alloc (.cells #[.bool sp1, .slice pp1 kp1 cp1, .slice qp1 jp1 dp1, .bool sp2, .slice pp2 kp2 cp2, .slice qp2 jp2 dp2] 28)).alloc (.cells #[.bool sq1, .slice pq1 kq1 cq1, .slice qq1 jq1 dq1, .bool sq2, .slice pq2 kq2 cq2, .slice qq2 jq2 dq2] 28) = W := ⟨_, rfl⟩
  rw [hW] at hXp hXq hbw ⊢
  obtain ⟨Xp, eXp⟩ : ∃ X, w.heap.size = X := ⟨_, rfl⟩
  obtain ⟨Xq, eXq⟩ : ∃ X, Xp + 1 = X := ⟨_, rfl⟩
  rw [eXp, eXq]
  rw [eXp] at hXp hXq
  rw [eXq] at hXq
  have HXp := Lib.hid hXp
  have HXq := Lib.hid hXq
  have HBW := Lib.hid hbw
  have HGEXp : Hid (w.heap.size ≤ Xp) := by unfold Hid; omega
  have HGEXq : Hid (w.heap.size ≤ Xq) := by unfold Hid; omega
  have HLT : Hid (Xp < Xq) := by unfold Hid; omega
  clear hW hbw hXp hXq eXp eXq
  refine line_region 5 [[], [], [0, 1], [2], [3]] [.is (.agg #[.bool sp1, .slice pp1 kp1 cp1, .slice qp1 jp1 dp1, .bool sp2, .slice pp2 kp2 cp2, .slice qp2 jp2 dp2]), .is (.agg #[.bool sq1, .slice pq1 kq1 cq1, .slice qq1 jq1 dq1, .bool sq2, .slice pq2 kq2 cq2, .slice qq2 jq2 dq2]), .has (fun v w => RpSl [⟨sp1, pp1, kp1, cp1, qp1, jp1, dp1, sp2, pp2, kp2, cp2, qp2, jp2, dp2⟩, ⟨sq1, pq1, kq1, cq1, qq1, jq1, dq1, sq2, pq2, kq2, cq2, qq2, jq2, dq2⟩] v w), .is (.bool true), .is (.bool false)] rfl rfl (by decide) (by simp only [Steady]; exact ⟨fun _ _ _ h hb => h.bel hb, trivial⟩) ?_
  simp only [List.take_succ_cons, List.take_zero, List.drop_succ_cons, List.drop_zero]
  refine fV (by rfl) (by intro w1 hw1 hk1; obtain ⟨c0, c1, c2, c3, c4, c5⟩ := boxc6 (hw1.heap HXp.out); go_simp) ?_
  simp only [Act.put, sA, sB, sC]
  refine fV (by rfl) (by intro w1 hw1 hk1; obtain ⟨c0, c1, c2, c3, c4, c5⟩ := boxc6 (hw1.heap HXq.out); go_simp) ?_
  simp only [Act.put, sA, sB, sC]
  refine flow_has (by intro w1 hw1 hk1; refine want (by rfl) (gives_new (c := .slice (some ⟨w1.heap.size, 0, none⟩) 2 2) (w' := w1.alloc (.cells #[.bool sp1, .slice pp1 kp1 cp1, .slice qp1 jp1 dp1, .bool sp2, .slice pp2 kp2 cp2, .slice qp2 jp2 dp2, .bool sq1, .slice pq1 kq1 cq1, .slice qq1 jq1 dq1, .bool sq2, .slice pq2 kq2 cq2, .slice qq2 jq2 dq2] 28)) (by go_simp) ((Bel.refl w1).alloc _) (RpSl.new [⟨sp1, pp1, kp1, cp1, qp1, jp1, dp1, sp2, pp2, kp2, cp2, qp2, jp2, dp2⟩, ⟨sq1, pq1, kq1, cq1, qq1, jq1, dq1, sq2, pq2, kq2, cq2, qq2, jq2, dq2⟩] w1))) (fun v2 => ?_)
  simp only [Act.put, sA, sB, sC]
  refine fC (by rfl) (by intro w1 hw1 hk1; obtain ⟨g2, -⟩ := hk1; exact HC1_3.out _ _ g2) (by intro; go_simp) ?_
  simp only [Act.put, sA, sB, sC]
  refine fV (by rfl) (by intro w1 hw1 hk1; go_simp) ?_
  simp only [Act.put, sA, sB, sC]
  intro W1 hW1 hk1
  obtain ⟨g2, -⟩ := hk1
  have hb2 := hW1
  replace HBW := Lib.hid (HBW.out.trans hb2)
  have HBW_ := Lib.hid hb2
  clear hW1 g2 hb2
  go_upto_region 3 with fail
  refine region_flowN 8 [] [6, 7] [[], [], [0, 1], [], [], [3, 4], [], []] [.is (.agg #[.bool sp1, .slice pp1 kp1 cp1, .slice qp1 jp1 dp1, .bool sp2, .slice pp2 kp2 cp2, .slice qp2 jp2 dp2]), .is (.agg #[.bool sq1, .slice pq1 kq1 cq1, .slice qq1 jq1 dq1, .bool sq2, .slice pq2 kq2 cq2, .slice qq2 jq2 dq2]), .has (fun v w => RN 25 w v R1), .is (.agg #[.bool sp1, .slice pp1 kp1 cp1, .slice qp1 jp1 dp1, .bool sp2, .slice pp2 kp2 cp2, .slice qp2 jp2 dp2]), .is (.agg #[.bool sq1, .slice pq1 kq1 cq1, .slice qq1 jq1 dq1, .bool sq2, .slice pq2 kq2 cq2, .slice qq2 jq2 dq2]), .has (fun v w => RN 25 w v R2), .has (fun v w => NewBox W1 26 #[.bool false, .slice none 0 0, .slice none 0 0] v w), .has (fun v w => NewBox W1 26 #[.bool false, .slice none 0 0, .slice none 0 0] v w)] (by kernel_rfl) (by kernel_rfl) rfl (fun j hj => by cases hj) (by intro j hj; simp only [List.mem_cons, List.not_mem_nil, or_false] at hj; rcases hj with rfl | rfl <;> exact ⟨_, _, rfl, (fun e w => by go_simp; exact ⟨_, rfl, Nat.le_refl _⟩), rfl, NewBox.lies⟩) (by simp only [Steady]; exact ⟨fun _ _ _ h hb => h.bel hb, fun _ _ _ h hb => h.bel hb, fun _ _ _ h hb => h.bel hb, fun _ _ _ h hb => h.bel hb, trivial⟩) ?_
  simp only [List.take_succ_cons, List.take_zero, List.drop_succ_cons, List.drop_zero]
  refine gV (by rfl) (by intro w1 hw1 hk1; obtain ⟨c0, c1, c2, c3, c4, c5⟩ := boxc6 (hw1.heap (HBW_.out.heap HXp.out)); go_simp) ?_
  simp only [Act.put, sA, sB, sC]
  refine gV (by rfl) (by intro w1 hw1 hk1; obtain ⟨c0, c1, c2, c3, c4, c5⟩ := boxc6 (hw1.heap (HBW_.out.heap HXq.out)); go_simp) ?_
  simp only [Act.put, sA, sB, sC]
  refine gH (by rfl) (by intro w1 hw1 hk1; exact HC3_2.out _ _ _ (HPp.out.bel (HBW.out.trans hw1)) (HPq.out.bel (HBW.out.trans hw1))) (by intro; go_simp) (fun v2 => ?_)
  simp only [Act.put, sA, sB, sC]
  refine gV (by rfl) (by intro w1 hw1 hk1; obtain ⟨c0, c1, c2, c3, c4, c5⟩ := boxc6 (hw1.heap (HBW_.out.heap HXp.out)); go_simp) ?_
  simp only [Act.put, sA, sB, sC]
  refine gV (by rfl) (by intro w1 hw1 hk1; obtain ⟨c0, c1, c2, c3, c4, c5⟩ := boxc6 (hw1.heap (HBW_.out.heap HXq.out)); go_simp) ?_
  simp only [Act.put, sA, sB, sC]
  refine gH (by rfl) (by intro w1 hw1 hk1; exact HC3_5.out _ _ _ (HPp.out.bel (HBW.out.trans hw1)) (HPq.out.bel (HBW.out.trans hw1))) (by intro; go_simp) (fun v5 => ?_)
  simp only [Act.put, sA, sB, sC]
  refine flowF_has (by intro w1 hw1 hk1; refine want (by rfl) (gives_new (c := .pointer (some ⟨w1.heap.size, 0, none⟩)) (w' := w1.alloc (.cells #[.bool false, .slice none 0 0, .slice none 0 0] 26)) (by go_simp) ((Bel.refl w1).alloc _) ?_); exact NewBox.new hw1) (fun v6 => ?_)
  simp only [Act.put, sA, sB, sC]
  refine flowF_has (by intro w1 hw1 hk1; refine want (by rfl) (gives_new (c := .pointer (some ⟨w1.heap.size, 0, none⟩)) (w' := w1.alloc (.cells #[.bool false, .slice none 0 0, .slice none 0 0] 26)) (by go_simp) ((Bel.refl w1).alloc _) ?_); exact NewBox.new hw1) (fun v7 => ?_)
  simp only [Act.put, sA, sB, sC]
  intro W2 hW2 hk1 hap
  obtain ⟨g7, g6, g5, g2, -⟩ := hk1
  have hnn6 := g6
  have hnn7 := g7
  have hne7_6 := hap.1.1
  clear g6 g7
  obtain ⟨X3_6, rfl, hgeX3_6, hxX3_6⟩ := hnn6
  obtain ⟨X3_7, rfl, hgeX3_7, hxX3_7⟩ := hnn7
  have hxe7_6 : X3_7 ≠ X3_6 := fun e => hne7_6 (by rw [e])
  clear hne7_6
  obtain ⟨sr2_3x1, pr2_3x1, kr2_3x1, cr2_3x1, qr2_3x1, jr2_3x1, dr2_3x1, rfl⟩ := g2.parts
  obtain ⟨sr5_3x1, pr5_3x1, kr5_3x1, cr5_3x1, qr5_3x1, jr5_3x1, dr5_3x1, rfl⟩ := g5.parts
  have hh0 := hxX3_6
  have dd0_0 : W2.cell? ⟨X3_6, 0, none⟩ = some (.bool false) := (heap_cell hh0 0).trans rfl
  have ff0_0 := heap_frozen hh0 0
  have dd0_1 : W2.cell? ⟨X3_6, 1, none⟩ = some (.slice none 0 0) := (heap_cell hh0 1).trans rfl
  have ff0_1 := heap_frozen hh0 1
  have dd0_2 : W2.cell? ⟨X3_6, 2, none⟩ = some (.slice none 0 0) := (heap_cell hh0 2).trans rfl
  have ff0_2 := heap_frozen hh0 2
  replace hh0 := Lib.hid hh0
  have hh1 := hxX3_7
  have dd1_0 : W2.cell? ⟨X3_7, 0, none⟩ = some (.bool false) := (heap_cell hh1 0).trans rfl
  have ff1_0 := heap_frozen hh1 0
  have dd1_1 : W2.cell? ⟨X3_7, 1, none⟩ = some (.slice none 0 0) := (heap_cell hh1 1).trans rfl
  have ff1_1 := heap_frozen hh1 1
  have dd1_2 : W2.cell? ⟨X3_7, 2, none⟩ = some (.slice none 0 0) := (heap_cell hh1 2).trans rfl
  have ff1_2 := heap_frozen hh1 2
  replace hh1 := Lib.hid hh1
  go_upto_region 4 with fail
  clear dd0_0 ff0_0 dd0_1 ff0_1 dd0_2 ff0_2 hh0 dd1_0 ff1_0 dd1_1 ff1_1 dd1_2 ff1_2 hh1
  have ht0 := sto (w := W1) (t := 26) [.bool sr2_3x1, .slice pr2_3x1 kr2_3x1 cr2_3x1, .slice qr2_3x1 jr2_3x1 dr2_3x1] (hxX3_6) rfl rfl (hW2) hgeX3_6
  have ht1 := sto (w := W1) (t := 26) [.bool sr5_3x1, .slice pr5_3x1 kr5_3x1 cr5_3x1, .slice qr5_3x1 jr5_3x1 dr5_3x1] (ht0.oth _ _ (hxe7_6) (hxX3_7)) rfl rfl (ht0.bel) hgeX3_7
  obtain ⟨W3, hW3⟩ : ∃ W', setAll (setAll W2 X3_6 0 [.bool sr2_3x1, .slice pr2_3x1 kr2_3x1 cr2_3x1, .slice qr2_3x1 jr2_3x1 dr2_3x1]) X3_7 0 [.bool sr5_3x1, .slice pr5_3x1 kr5_3x1 cr5_3x1, .slice qr5_3x1 jr5_3x1 dr5_3x1] = W' := ⟨_, rfl⟩
  change Code.wp _ _ _ _ (setAll (setAll W2 X3_6 0 [.bool sr2_3x1, .slice pr2_3x1 kr2_3x1 cr2_3x1, .slice qr2_3x1 jr2_3x1 dr2_3x1]) X3_7 0 [.bool sr5_3x1, .slice pr5_3x1 kr5_3x1 cr5_3x1, .slice qr5_3x1 jr5_3x1 dr5_3x1])
  rw [hW3]
  have hb2 := ht1.bel
  rw [hW3] at hb2
  have Hg2_3 := g2.lim ((ht0.lim).trans ht1.lim)
  rw [hW3] at Hg2_3
  replace Hg2_3 := Lib.hid Hg2_3
  have Hg5_3 := g5.lim ((ht0.lim).trans ht1.lim)
  rw [hW3] at Hg5_3
  replace Hg5_3 := Lib.hid Hg5_3
  have HX3_6 := ht1.oth _ _ ((Ne.symm hxe7_6)) (ht0.heap)
  rw [hW3] at HX3_6
  replace HX3_6 := Lib.hid HX3_6
  have HX3_7 := ht1.heap
  rw [hW3] at HX3_7
  replace HX3_7 := Lib.hid HX3_7
  have hgwX3_6 : w.heap.size ≤ X3_6 := Nat.le_trans HBW.out.size hgeX3_6
  have hgwX3_7 : w.heap.size ≤ X3_7 := Nat.le_trans HBW.out.size hgeX3_7
  replace HBW := Lib.hid (HBW.out.trans hb2)
  replace HBW_ := Lib.hid (HBW_.out.trans hb2)
  have HBW1_ := Lib.hid hb2
  clear hW2 g2 g5 hxX3_6 hxX3_7 hgeX3_6 hgeX3_7 hxe7_6 hap hb2 hW3 ht0 ht1
  refine region_flowN 8 [] [7] [[], [], [0, 1], [], [], [3, 4], [2, 5], []] [.is (.agg #[.bool sr2_3x1, .slice pr2_3x1 kr2_3x1 cr2_3x1, .slice qr2_3x1 jr2_3x1 dr2_3x1]), .is (.agg #[.bool sr2_3x1, .slice pr2_3x1 kr2_3x1 cr2_3x1, .slice qr2_3x1 jr2_3x1 dr2_3x1]), .has (fun v w => RN 50 w v R3), .is (.agg #[.bool sr5_3x1, .slice pr5_3x1 kr5_3x1 cr5_3x1, .slice qr5_3x1 jr5_3x1 dr5_3x1]), .is (.agg #[.bool sr5_3x1, .slice pr5_3x1 kr5_3x1 cr5_3x1, .slice qr5_3x1 jr5_3x1 dr5_3x1]), .has (fun v w => RN 50 w v R4), .has (fun v w => RN 101 w v R5), .has (fun v w => NewBox W3 26 #[.bool false, .slice none 0 0, .slice none 0 0] v w)] (by kernel_rfl) (by kernel_rfl) rfl (fun j hj => by cases hj) (by intro j hj; simp only [List.mem_cons, List.not_mem_nil, or_false] at hj; rcases hj with rfl <;> exact ⟨_, _, rfl, (fun e w => by go_simp; exact ⟨_, rfl, Nat.le_refl _⟩), rfl, NewBox.lies⟩) (by simp only [Steady]; exact ⟨fun _ _ _ h hb => h.bel hb, fun _ _ _ h hb => h.bel hb, fun _ _ _ h hb => h.bel hb, fun _ _ _ h hb => h.bel hb, trivial⟩) ?_
  simp only [List.take_succ_cons, List.take_zero, List.drop_succ_cons, List.drop_zero]
  refine gV (by rfl) (by intro w1 hw1 hk1; obtain ⟨c0, c1, c2⟩ := boxc3 (hw1.heap HX3_6.out); go_simp) ?_
  simp only [Act.put, sA, sB, sC]
  refine gV (by rfl) (by intro w1 hw1 hk1; obtain ⟨c0, c1, c2⟩ := boxc3 (hw1.heap HX3_6.out); go_simp) ?_
  simp only [Act.put, sA, sB, sC]
  refine gH (by rfl) (by intro w1 hw1 hk1; exact HC4_2.out _ _ _ (Hg2_3.out.bel hw1) (Hg2_3.out.bel hw1)) (by intro; go_simp) (fun v2 => ?_)
  simp only [Act.put, sA, sB, sC]
  refine gV (by rfl) (by intro w1 hw1 hk1; obtain ⟨c0, c1, c2⟩ := boxc3 (hw1.heap HX3_7.out); go_simp) ?_
  simp only [Act.put, sA, sB, sC]
  refine gV (by rfl) (by intro w1 hw1 hk1; obtain ⟨c0, c1, c2⟩ := boxc3 (hw1.heap HX3_7.out); go_simp) ?_
  simp only [Act.put, sA, sB, sC]
  refine gH (by rfl) (by intro w1 hw1 hk1; exact HC4_5.out _ _ _ (Hg5_3.out.bel hw1) (Hg5_3.out.bel hw1)) (by intro; go_simp) (fun v5 => ?_)
  simp only [Act.put, sA, sB, sC]
  refine gH (by rfl) (by intro w1 hw1 hk1; obtain ⟨g5, g2, -⟩ := hk1; exact HC4_6.out _ _ _ g2 g5) (by intro; go_simp) (fun v6 => ?_)
  simp only [Act.put, sA, sB, sC]
  refine flowF_has (by intro w1 hw1 hk1; refine want (by rfl) (gives_new (c := .pointer (some ⟨w1.heap.size, 0, none⟩)) (w' := w1.alloc (.cells #[.bool false, .slice none 0 0, .slice none 0 0] 26)) (by go_simp) ((Bel.refl w1).alloc _) ?_); exact NewBox.new hw1) (fun v7 => ?_)
  simp only [Act.put, sA, sB, sC]
  intro W4 hW4 hk1 hap
  obtain ⟨g7, g6, g5, g2, -⟩ := hk1
  have hnn7 := g7
  clear g7
  obtain ⟨X4_7, rfl, hgeX4_7, hxX4_7⟩ := hnn7
  obtain ⟨sr6_4x1, pr6_4x1, kr6_4x1, cr6_4x1, qr6_4x1, jr6_4x1, dr6_4x1, rfl⟩ := g6.parts
  have hh0 := hxX4_7
  have dd0_0 : W4.cell? ⟨X4_7, 0, none⟩ = some (.bool false) := (heap_cell hh0 0).trans rfl
  have ff0_0 := heap_frozen hh0 0
  have dd0_1 : W4.cell? ⟨X4_7, 1, none⟩ = some (.slice none 0 0) := (heap_cell hh0 1).trans rfl
  have ff0_1 := heap_frozen hh0 1
  have dd0_2 : W4.cell? ⟨X4_7, 2, none⟩ = some (.slice none 0 0) := (heap_cell hh0 2).trans rfl
  have ff0_2 := heap_frozen hh0 2
  replace hh0 := Lib.hid hh0
  go_upto_region 5 with fail
  clear dd0_0 ff0_0 dd0_1 ff0_1 dd0_2 ff0_2 hh0
  have ht0 := sto (w := W3) (t := 26) [.bool sr6_4x1, .slice pr6_4x1 kr6_4x1 cr6_4x1, .slice qr6_4x1 jr6_4x1 dr6_4x1] (hxX4_7) rfl rfl (hW4) hgeX4_7
  obtain ⟨W5, hW5⟩ : ∃ W', setAll W4 X4_7 0 [.bool sr6_4x1, .slice pr6_4x1 kr6_4x1 cr6_4x1, .slice qr6_4x1 jr6_4x1 dr6_4x1] = W' := ⟨_, rfl⟩
  change Code.wp _ _ _ _ (setAll W4 X4_7 0 [.bool sr6_4x1, .slice pr6_4x1 kr6_4x1 cr6_4x1, .slice qr6_4x1 jr6_4x1 dr6_4x1])
  rw [hW5]
  have hb2 := ht0.bel
  rw [hW5] at hb2
  have Hg6_4 := g6.lim (ht0.lim)
  rw [hW5] at Hg6_4
  replace Hg6_4 := Lib.hid Hg6_4
  have HX4_7 := ht0.heap
  rw [hW5] at HX4_7
  replace HX4_7 := Lib.hid HX4_7
  have hgwX4_7 : w.heap.size ≤ X4_7 := Nat.le_trans HBW.out.size hgeX4_7
  replace HBW := Lib.hid (HBW.out.trans hb2)
  replace HBW_ := Lib.hid (HBW_.out.trans hb2)
  replace HBW1_ := Lib.hid (HBW1_.out.trans hb2)
  have HBW3_ := Lib.hid hb2
  clear hW4 g6 hxX4_7 g2 g5 hgeX4_7 hap hb2 hW5 ht0
  refine region_flowN 12 [] [10, 11] [[], [0], [], [2], [1, 3], [], [5], [], [7], [6, 8], [], []] [.is (.pointer (some ⟨Xp, 0, none⟩)), .is (.agg #[.bool sp1, .slice pp1 kp1 cp1, .slice qp1 jp1 dp1]), .is (.pointer (some ⟨Xq, 0, none⟩)), .is (.agg #[.bool sq1, .slice pq1 kq1 cq1, .slice qq1 jq1 dq1]), .has (fun v w => RN 13 w v R6), .is (.pointer (some ⟨Xp, 3, none⟩)), .is (.agg #[.bool sp2, .slice pp2 kp2 cp2, .slice qp2 jp2 dp2]), .is (.pointer (some ⟨Xq, 3, none⟩)), .is (.agg #[.bool sq2, .slice pq2 kq2 cq2, .slice qq2 jq2 dq2]), .has (fun v w => RN 13 w v R7), .has (fun v w => NewBox W5 26 #[.bool false, .slice none 0 0, .slice none 0 0] v w), .has (fun v w => NewBox W5 26 #[.bool false, .slice none 0 0, .slice none 0 0] v w)] (by kernel_rfl) (by kernel_rfl) rfl (fun j hj => by cases hj) (by intro j hj; simp only [List.mem_cons, List.not_mem_nil, or_false] at hj; rcases hj with rfl | rfl <;> exact ⟨_, _, rfl, (fun e w => by go_simp; exact ⟨_, rfl, Nat.le_refl _⟩), rfl, NewBox.lies⟩) (by simp only [Steady]; exact ⟨fun _ _ _ h hb => h.bel hb, fun _ _ _ h hb => h.bel hb, fun _ _ _ h hb => h.bel hb, fun _ _ _ h hb => h.bel hb, trivial⟩) ?_
  simp only [List.take_succ_cons, List.take_zero, List.drop_succ_cons, List.drop_zero]
  refine gV (by rfl) (by intro w1 hw1 hk1; go_simp) ?_
  simp only [Act.put, sA, sB, sC]
  refine gV (by rfl) (by intro w1 hw1 hk1; obtain ⟨c0, c1, c2, -, -, -⟩ := boxc6 (hw1.heap (HBW_.out.heap HXp.out)); go_simp) ?_
  simp only [Act.put, sA, sB, sC]
  refine gV (by rfl) (by intro w1 hw1 hk1; go_simp) ?_
  simp only [Act.put, sA, sB, sC]
  refine gV (by rfl) (by intro w1 hw1 hk1; obtain ⟨c0, c1, c2, -, -, -⟩ := boxc6 (hw1.heap (HBW_.out.heap HXq.out)); go_simp) ?_
  simp only [Act.put, sA, sB, sC]
  refine gH (by rfl) (by intro w1 hw1 hk1; exact HC5_4.out _ _ _ (HPp1.out.bel (HBW.out.trans hw1)) (HPq1.out.bel (HBW.out.trans hw1))) (by intro; go_simp) (fun v4 => ?_)
  simp only [Act.put, sA, sB, sC]
  refine gV (by rfl) (by intro w1 hw1 hk1; go_simp) ?_
  simp only [Act.put, sA, sB, sC]
  refine gV (by rfl) (by intro w1 hw1 hk1; obtain ⟨-, -, -, c3, c4, c5⟩ := boxc6 (hw1.heap (HBW_.out.heap HXp.out)); go_simp) ?_
  simp only [Act.put, sA, sB, sC]
  refine gV (by rfl) (by intro w1 hw1 hk1; go_simp) ?_
  simp only [Act.put, sA, sB, sC]
  refine gV (by rfl) (by intro w1 hw1 hk1; obtain ⟨-, -, -, c3, c4, c5⟩ := boxc6 (hw1.heap (HBW_.out.heap HXq.out)); go_simp) ?_
  simp only [Act.put, sA, sB, sC]
  refine gH (by rfl) (by intro w1 hw1 hk1; exact HC5_9.out _ _ _ (HPp2.out.bel (HBW.out.trans hw1)) (HPq2.out.bel (HBW.out.trans hw1))) (by intro; go_simp) (fun v9 => ?_)
  simp only [Act.put, sA, sB, sC]
  refine flowF_has (by intro w1 hw1 hk1; refine want (by rfl) (gives_new (c := .pointer (some ⟨w1.heap.size, 0, none⟩)) (w' := w1.alloc (.cells #[.bool false, .slice none 0 0, .slice none 0 0] 26)) (by go_simp) ((Bel.refl w1).alloc _) ?_); exact NewBox.new hw1) (fun v10 => ?_)
  simp only [Act.put, sA, sB, sC]
  refine flowF_has (by intro w1 hw1 hk1; refine want (by rfl) (gives_new (c := .pointer (some ⟨w1.heap.size, 0, none⟩)) (w' := w1.alloc (.cells #[.bool false, .slice none 0 0, .slice none 0 0] 26)) (by go_simp) ((Bel.refl w1).alloc _) ?_); exact NewBox.new hw1) (fun v11 => ?_)
  simp only [Act.put, sA, sB, sC]
  intro W6 hW6 hk1 hap
  obtain ⟨g11, g10, g9, g4, -⟩ := hk1
  have hnn10 := g10
  have hnn11 := g11
  have hne11_10 := hap.1.1
  clear g10 g11
  obtain ⟨X5_10, rfl, hgeX5_10, hxX5_10⟩ := hnn10
  obtain ⟨X5_11, rfl, hgeX5_11, hxX5_11⟩ := hnn11
  have hxe11_10 : X5_11 ≠ X5_10 := fun e => hne11_10 (by rw [e])
  clear hne11_10
  obtain ⟨sr4_5x1, pr4_5x1, kr4_5x1, cr4_5x1, qr4_5x1, jr4_5x1, dr4_5x1, rfl⟩ := g4.parts
  obtain ⟨sr9_5x1, pr9_5x1, kr9_5x1, cr9_5x1, qr9_5x1, jr9_5x1, dr9_5x1, rfl⟩ := g9.parts
  have hh0 := hxX5_10
  have dd0_0 : W6.cell? ⟨X5_10, 0, none⟩ = some (.bool false) := (heap_cell hh0 0).trans rfl
  have ff0_0 := heap_frozen hh0 0
  have dd0_1 : W6.cell? ⟨X5_10, 1, none⟩ = some (.slice none 0 0) := (heap_cell hh0 1).trans rfl
  have ff0_1 := heap_frozen hh0 1
  have dd0_2 : W6.cell? ⟨X5_10, 2, none⟩ = some (.slice none 0 0) := (heap_cell hh0 2).trans rfl
  have ff0_2 := heap_frozen hh0 2
  replace hh0 := Lib.hid hh0
  have hh1 := hxX5_11
  have dd1_0 : W6.cell? ⟨X5_11, 0, none⟩ = some (.bool false) := (heap_cell hh1 0).trans rfl
  have ff1_0 := heap_frozen hh1 0
  have dd1_1 : W6.cell? ⟨X5_11, 1, none⟩ = some (.slice none 0 0) := (heap_cell hh1 1).trans rfl
  have ff1_1 := heap_frozen hh1 1
  have dd1_2 : W6.cell? ⟨X5_11, 2, none⟩ = some (.slice none 0 0) := (heap_cell hh1 2).trans rfl
  have ff1_2 := heap_frozen hh1 2
  replace hh1 := Lib.hid hh1
  go_upto_region 6 with fail
  clear dd0_0 ff0_0 dd0_1 ff0_1 dd0_2 ff0_2 hh0 dd1_0 ff1_0 dd1_1 ff1_1 dd1_2 ff1_2 hh1
  have ht0 := sto (w := W5) (t := 26) [.bool sr4_5x1, .slice pr4_5x1 kr4_5x1 cr4_5x1, .slice qr4_5x1 jr4_5x1 dr4_5x1] (hxX5_10) rfl rfl (hW6) hgeX5_10
  have ht1 := sto (w := W5) (t := 26) [.bool sr9_5x1, .slice pr9_5x1 kr9_5x1 cr9_5x1, .slice qr9_5x1 jr9_5x1 dr9_5x1] (ht0.oth _ _ (hxe11_10) (hxX5_11)) rfl rfl (ht0.bel) hgeX5_11
  obtain ⟨W7, hW7⟩ : ∃ W', setAll (setAll W6 X5_10 0 [.bool sr4_5x1, .slice pr4_5x1 kr4_5x1 cr4_5x1, .slice qr4_5x1 jr4_5x1 dr4_5x1]) X5_11 0 [.bool sr9_5x1, .slice pr9_5x1 kr9_5x1 cr9_5x1, .slice qr9_5x1 jr9_5x1 dr9_5x1] = W' := ⟨_, rfl⟩
  change Code.wp _ _ _ _ (setAll (setAll W6 X5_10 0 [.bool sr4_5x1, .slice pr4_5x1 kr4_5x1 cr4_5x1, .slice qr4_5x1 jr4_5x1 dr4_5x1]) X5_11 0 [.bool sr9_5x1, .slice pr9_5x1 kr9_5x1 cr9_5x1, .slice qr9_5x1 jr9_5x1 dr9_5x1])
  rw [hW7]
  have hb2 := ht1.bel
  rw [hW7] at hb2
  have Hg4_5 := g4.lim ((ht0.lim).trans ht1.lim)
  rw [hW7] at Hg4_5
  replace Hg4_5 := Lib.hid Hg4_5
  have Hg9_5 := g9.lim ((ht0.lim).trans ht1.lim)
  rw [hW7] at Hg9_5
  replace Hg9_5 := Lib.hid Hg9_5
  have HX5_10 := ht1.oth _ _ ((Ne.symm hxe11_10)) (ht0.heap)
  rw [hW7] at HX5_10
  replace HX5_10 := Lib.hid HX5_10
  have HX5_11 := ht1.heap
  rw [hW7] at HX5_11
  replace HX5_11 := Lib.hid HX5_11
  have hgwX5_10 : w.heap.size ≤ X5_10 := Nat.le_trans HBW.out.size hgeX5_10
  have hgwX5_11 : w.heap.size ≤ X5_11 := Nat.le_trans HBW.out.size hgeX5_11
  replace HBW := Lib.hid (HBW.out.trans hb2)
  replace HBW_ := Lib.hid (HBW_.out.trans hb2)
  replace HBW1_ := Lib.hid (HBW1_.out.trans hb2)
  replace HBW3_ := Lib.hid (HBW3_.out.trans hb2)
  have HBW5_ := Lib.hid hb2
  clear hW6 g4 g9 hxX5_10 hxX5_11 hgeX5_10 hgeX5_11 hxe11_10 hap hb2 hW7 ht0 ht1
  refine region_flow 52 [[], [], [], [1, 2], [], [], [4, 5], [3, 6], [0, 7], [8], [9], [10], [10], [10, 11, 12], [10], [10], [10, 14, 15], [10], [10], [10, 17, 18], [10, 16, 19], [10, 13, 20], [10, 21], [10, 22], [23], [24], [24], [24, 25, 26], [24, 27], [24, 28], [24, 29], [30], [31], [31], [31, 32, 33], [31], [31, 35], [31, 34, 36], [31, 37], [31, 38], [39], [40], [40], [40, 41, 42], [40], [40, 43, 44], [40], [40, 45, 46], [40, 47], [48], [49], [49, 50]] [.is (.agg #[.bool sr6_4x1, .slice pr6_4x1 kr6_4x1 cr6_4x1, .slice qr6_4x1 jr6_4x1 dr6_4x1]), .is (.agg #[.bool sp1, .slice pp1 kp1 cp1, .slice qp1 jp1 dp1, .bool sp2, .slice pp2 kp2 cp2, .slice qp2 jp2 dp2]), .is (.agg #[.bool sp1, .slice pp1 kp1 cp1, .slice qp1 jp1 dp1, .bool sp2, .slice pp2 kp2 cp2, .slice qp2 jp2 dp2]), .has (fun v w => RN 25 w v R8), .is (.agg #[.bool sq1, .slice pq1 kq1 cq1, .slice qq1 jq1 dq1, .bool sq2, .slice pq2 kq2 cq2, .slice qq2 jq2 dq2]), .is (.agg #[.bool sq1, .slice pq1 kq1 cq1, .slice qq1 jq1 dq1, .bool sq2, .slice pq2 kq2 cq2, .slice qq2 jq2 dq2]), .has (fun v w => RN 25 w v R9), .has (fun v w => RN 50 w v R10), .is (.int .i64 C1), .is (.bool true), .is (.bool true), .is (.agg #[.bool sp1, .slice pp1 kp1 cp1, .slice qp1 jp1 dp1, .bool sp2, .slice pp2 kp2 cp2, .slice qp2 jp2 dp2]), .is (.agg #[.bool sq1, .slice pq1 kq1 cq1, .slice qq1 jq1 dq1, .bool sq2, .slice pq2 kq2 cq2, .slice qq2 jq2 dq2]), .has (fun v w => RN 53 w v R11), .is (.agg #[.bool sr4_5x1, .slice pr4_5x1 kr4_5x1 cr4_5x1, .slice qr4_5x1 jr4_5x1 dr4_5x1]), .is (.agg #[.bool sr4_5x1, .slice pr4_5x1 kr4_5x1 cr4_5x1, .slice qr4_5x1 jr4_5x1 dr4_5x1]), .has (fun v w => RN 26 w v R12), .is (.agg #[.bool sr9_5x1, .slice pr9_5x1 kr9_5x1 cr9_5x1, .slice qr9_5x1 jr9_5x1 dr9_5x1]), .is (.agg #[.bool sr9_5x1, .slice pr9_5x1 kr9_5x1 cr9_5x1, .slice qr9_5x1 jr9_5x1 dr9_5x1]), .has (fun v w => RN 26 w v R13), .has (fun v w => RN 53 w v R14), .is (.int .i64 C2), .is (.bool true), .is (.bool true), .is (.bool true), .is (.agg #[.bool sp1, .slice pp1 kp1 cp1, .slice qp1 jp1 dp1, .bool sp2, .slice pp2 kp2 cp2, .slice qp2 jp2 dp2]), .is (.agg #[.bool sp1, .slice pp1 kp1 cp1, .slice qp1 jp1 dp1, .bool sp2, .slice pp2 kp2 cp2, .slice qp2 jp2 dp2]), .has (fun v w => RN 25 w v R15), .is (.int .i64 C3), .is (.bool true), .is (.bool true), .is (.bool true), .is (.agg #[.bool sq1, .slice pq1 kq1 cq1, .slice qq1 jq1 dq1, .bool sq2, .slice pq2 kq2 cq2, .slice qq2 jq2 dq2]), .is (.agg #[.bool sp1, .slice pp1 kp1 cp1, .slice qp1 jp1 dp1, .bool sp2, .slice pp2 kp2 cp2, .slice qp2 jp2 dp2]), .has (fun v w => RN 25 w v R16), .is (.agg #[.bool sr5_3x1, .slice pr5_3x1 kr5_3x1 cr5_3x1, .slice qr5_3x1 jr5_3x1 dr5_3x1]), .has (fun v w => RN 25 w v R17), .is (.int .i64 C4), .is (.bool true), .is (.bool true), .is (.bool true), .is (.agg #[.bool sp1, .slice pp1 kp1 cp1, .slice qp1 jp1 dp1, .bool sp2, .slice pp2 kp2 cp2, .slice qp2 jp2 dp2]), .is (.agg #[.bool sq1, .slice pq1 kq1 cq1, .slice qq1 jq1 dq1, .bool sq2, .slice pq2 kq2 cq2, .slice qq2 jq2 dq2]), .has (fun v w => PN 13 w v R18 R19), .is (.agg #[.bool sq1, .slice pq1 kq1 cq1, .slice qq1 jq1 dq1, .bool sq2, .slice pq2 kq2 cq2, .slice qq2 jq2 dq2]), .has (fun v w => PN 20 w v R20 R21), .is (.agg #[.bool sp1, .slice pp1 kp1 cp1, .slice qp1 jp1 dp1, .bool sp2, .slice pp2 kp2 cp2, .slice qp2 jp2 dp2]), .is (.bool true), .is (.bool true), .is (.bool true), .is (.bool true), .is (.bool true)] (by kernel_rfl) (by kernel_rfl) rfl (by simp only [Steady]; exact ⟨fun _ _ _ h hb => h.bel hb, fun _ _ _ h hb => h.bel hb, fun _ _ _ h hb => h.bel hb, fun _ _ _ h hb => h.bel hb, fun _ _ _ h hb => h.bel hb, fun _ _ _ h hb => h.bel hb, fun _ _ _ h hb => h.bel hb, fun _ _ _ h hb => h.bel hb, fun _ _ _ h hb => h.bel hb, fun _ _ _ h hb => h.bel hb, fun _ _ _ h hb => h.bel hb, fun _ _ _ h hb => h.bel hb, trivial⟩) ?_
  simp only [List.take_succ_cons, List.take_zero, List.drop_succ_cons, List.drop_zero]
  refine fV (by rfl) (by intro w1 hw1 hk1; obtain ⟨c0, c1, c2⟩ := boxc3 (hw1.heap (HBW5_.out.heap HX4_7.out)); go_simp) ?_
  simp only [Act.put, sA, sB, sC]
  refine fV (by rfl) (by intro w1 hw1 hk1; obtain ⟨c0, c1, c2, c3, c4, c5⟩ := boxc6 (hw1.heap (HBW_.out.heap HXp.out)); go_simp) ?_
  simp only [Act.put, sA, sB, sC]
  refine fV (by rfl) (by intro w1 hw1 hk1; obtain ⟨c0, c1, c2, c3, c4, c5⟩ := boxc6 (hw1.heap (HBW_.out.heap HXp.out)); go_simp) ?_
  simp only [Act.put, sA, sB, sC]
  refine fH (by rfl) (by intro w1 hw1 hk1; exact HC6_3.out _ _ _ (HPp.out.bel (HBW.out.trans hw1)) (HPp.out.bel (HBW.out.trans hw1))) (by intro; go_simp) (fun v3 => ?_)
  simp only [Act.put, sA, sB, sC]
  refine fV (by rfl) (by intro w1 hw1 hk1; obtain ⟨c0, c1, c2, c3, c4, c5⟩ := boxc6 (hw1.heap (HBW_.out.heap HXq.out)); go_simp) ?_
  simp only [Act.put, sA, sB, sC]
  refine fV (by rfl) (by intro w1 hw1 hk1; obtain ⟨c0, c1, c2, c3, c4, c5⟩ := boxc6 (hw1.heap (HBW_.out.heap HXq.out)); go_simp) ?_
  simp only [Act.put, sA, sB, sC]
  refine fH (by rfl) (by intro w1 hw1 hk1; exact HC6_6.out _ _ _ (HPq.out.bel (HBW.out.trans hw1)) (HPq.out.bel (HBW.out.trans hw1))) (by intro; go_simp) (fun v6 => ?_)
  simp only [Act.put, sA, sB, sC]
  refine fH (by rfl) (by intro w1 hw1 hk1; obtain ⟨g6, g3, -⟩ := hk1; exact HC6_7.out _ _ _ g3 g6) (by intro; go_simp) (fun v7 => ?_)
  simp only [Act.put, sA, sB, sC]
  refine fC (by rfl) (by intro w1 hw1 hk1; obtain ⟨g7, -, -, -⟩ := hk1; exact HC6_8.out _ _ _ (Hg6_4.out.bel (HBW5_.out.trans hw1)) g7) (by intro; go_simp) ?_
  simp only [Act.put, sA, sB, sC]
  refine flow_is (by intro w1 hw1 hk1; refine want (by rfl) (gives_val ?_); have q := HL6_9.out; go_simp; (first | done | simp [q] | omega)) ?_
  simp only [Act.put, sA, sB, sC]
  refine fV (by rfl) (by intro w1 hw1 hk1; go_simp) ?_
  simp only [Act.put, sA, sB, sC]
  refine fV (by rfl) (by intro w1 hw1 hk1; obtain ⟨c0, c1, c2, c3, c4, c5⟩ := boxc6 (hw1.heap (HBW_.out.heap HXp.out)); go_simp) ?_
  simp only [Act.put, sA, sB, sC]
  refine fV (by rfl) (by intro w1 hw1 hk1; obtain ⟨c0, c1, c2, c3, c4, c5⟩ := boxc6 (hw1.heap (HBW_.out.heap HXq.out)); go_simp) ?_
  simp only [Act.put, sA, sB, sC]
  refine fH (by rfl) (by intro w1 hw1 hk1; exact HC6_13.out _ _ _ (HPp.out.bel (HBW.out.trans hw1)) (HPq.out.bel (HBW.out.trans hw1))) (by intro; go_simp) (fun v13 => ?_)
  simp only [Act.put, sA, sB, sC]
  refine fV (by rfl) (by intro w1 hw1 hk1; obtain ⟨c0, c1, c2⟩ := boxc3 (hw1.heap HX5_10.out); go_simp) ?_
  simp only [Act.put, sA, sB, sC]
  refine fV (by rfl) (by intro w1 hw1 hk1; obtain ⟨c0, c1, c2⟩ := boxc3 (hw1.heap HX5_10.out); go_simp) ?_
  simp only [Act.put, sA, sB, sC]
  refine fH (by rfl) (by intro w1 hw1 hk1; exact HC6_16.out _ _ _ (Hg4_5.out.bel hw1) (Hg4_5.out.bel hw1)) (by intro; go_simp) (fun v16 => ?_)
  simp only [Act.put, sA, sB, sC]
  refine fV (by rfl) (by intro w1 hw1 hk1; obtain ⟨c0, c1, c2⟩ := boxc3 (hw1.heap HX5_11.out); go_simp) ?_
  simp only [Act.put, sA, sB, sC]
  refine fV (by rfl) (by intro w1 hw1 hk1; obtain ⟨c0, c1, c2⟩ := boxc3 (hw1.heap HX5_11.out); go_simp) ?_
  simp only [Act.put, sA, sB, sC]
  refine fH (by rfl) (by intro w1 hw1 hk1; exact HC6_19.out _ _ _ (Hg9_5.out.bel hw1) (Hg9_5.out.bel hw1)) (by intro; go_simp) (fun v19 => ?_)
  simp only [Act.put, sA, sB, sC]
  refine fH (by rfl) (by intro w1 hw1 hk1; obtain ⟨g19, g16, -, -, -, -, -⟩ := hk1; exact HC6_20.out _ _ _ g16 g19) (by intro; go_simp) (fun v20 => ?_)
  simp only [Act.put, sA, sB, sC]
  refine fC (by rfl) (by intro w1 hw1 hk1; obtain ⟨g20, -, -, g13, -, -, -, -⟩ := hk1; exact HC6_21.out _ _ _ g13 g20) (by intro; go_simp) ?_
  simp only [Act.put, sA, sB, sC]
  refine flow_is (by intro w1 hw1 hk1; refine want (by rfl) (gives_val ?_); have q := HL6_22.out; go_simp; (first | done | simp [q] | omega)) ?_
  simp only [Act.put, sA, sB, sC]
  refine fV (by rfl) (by intro w1 hw1 hk1; go_simp) ?_
  simp only [Act.put, sA, sB, sC]
  refine fV (by rfl) (by intro w1 hw1 hk1; go_simp) ?_
  simp only [Act.put, sA, sB, sC]
  refine fV (by rfl) (by intro w1 hw1 hk1; obtain ⟨c0, c1, c2, c3, c4, c5⟩ := boxc6 (hw1.heap (HBW_.out.heap HXp.out)); go_simp) ?_
  simp only [Act.put, sA, sB, sC]
  refine fV (by rfl) (by intro w1 hw1 hk1; obtain ⟨c0, c1, c2, c3, c4, c5⟩ := boxc6 (hw1.heap (HBW_.out.heap HXp.out)); go_simp) ?_
  simp only [Act.put, sA, sB, sC]
  refine fH (by rfl) (by intro w1 hw1 hk1; exact HC6_27.out _ _ _ (HPp.out.bel (HBW.out.trans hw1)) (HPp.out.bel (HBW.out.trans hw1))) (by intro; go_simp) (fun v27 => ?_)
  simp only [Act.put, sA, sB, sC]
  refine fC (by rfl) (by intro w1 hw1 hk1; obtain ⟨g27, -, -, -, -, -, -, -, -⟩ := hk1; exact HC6_28.out _ _ g27) (by intro; go_simp) ?_
  simp only [Act.put, sA, sB, sC]
  refine flow_is (by intro w1 hw1 hk1; refine want (by rfl) (gives_val ?_); have q := HL6_29.out; go_simp; (first | done | simp [q] | omega)) ?_
  simp only [Act.put, sA, sB, sC]
  refine fV (by rfl) (by intro w1 hw1 hk1; go_simp) ?_
  simp only [Act.put, sA, sB, sC]
  refine fV (by rfl) (by intro w1 hw1 hk1; go_simp) ?_
  simp only [Act.put, sA, sB, sC]
  refine fV (by rfl) (by intro w1 hw1 hk1; obtain ⟨c0, c1, c2, c3, c4, c5⟩ := boxc6 (hw1.heap (HBW_.out.heap HXq.out)); go_simp) ?_
  simp only [Act.put, sA, sB, sC]
  refine fV (by rfl) (by intro w1 hw1 hk1; obtain ⟨c0, c1, c2, c3, c4, c5⟩ := boxc6 (hw1.heap (HBW_.out.heap HXp.out)); go_simp) ?_
  simp only [Act.put, sA, sB, sC]
  refine fH (by rfl) (by intro w1 hw1 hk1; exact HC6_34.out _ _ _ (HPq.out.bel (HBW.out.trans hw1)) (HPp.out.bel (HBW.out.trans hw1))) (by intro; go_simp) (fun v34 => ?_)
  simp only [Act.put, sA, sB, sC]
  refine fV (by rfl) (by intro w1 hw1 hk1; obtain ⟨c0, c1, c2⟩ := boxc3 (hw1.heap (HBW3_.out.heap HX3_7.out)); go_simp) ?_
  simp only [Act.put, sA, sB, sC]
  refine fH (by rfl) (by intro w1 hw1 hk1; exact HC6_36.out _ _ (Hg5_3.out.bel (HBW3_.out.trans hw1))) (by intro; go_simp) (fun v36 => ?_)
  simp only [Act.put, sA, sB, sC]
  refine fC (by rfl) (by intro w1 hw1 hk1; obtain ⟨g36, g34, -, -, -, -, -, -, -, -, -⟩ := hk1; exact HC6_37.out _ _ _ g34 g36) (by intro; go_simp) ?_
  simp only [Act.put, sA, sB, sC]
  refine flow_is (by intro w1 hw1 hk1; refine want (by rfl) (gives_val ?_); have q := HL6_38.out; go_simp; (first | done | simp [q] | omega)) ?_
  simp only [Act.put, sA, sB, sC]
  refine fV (by rfl) (by intro w1 hw1 hk1; go_simp) ?_
  simp only [Act.put, sA, sB, sC]
  refine fV (by rfl) (by intro w1 hw1 hk1; go_simp) ?_
  simp only [Act.put, sA, sB, sC]
  refine fV (by rfl) (by intro w1 hw1 hk1; obtain ⟨c0, c1, c2, c3, c4, c5⟩ := boxc6 (hw1.heap (HBW_.out.heap HXp.out)); go_simp) ?_
  simp only [Act.put, sA, sB, sC]
  refine fV (by rfl) (by intro w1 hw1 hk1; obtain ⟨c0, c1, c2, c3, c4, c5⟩ := boxc6 (hw1.heap (HBW_.out.heap HXq.out)); go_simp) ?_
  simp only [Act.put, sA, sB, sC]
  refine fH (by rfl) (by intro w1 hw1 hk1; exact HC6_43.out _ _ _ (HPp.out.bel (HBW.out.trans hw1)) (HPq.out.bel (HBW.out.trans hw1))) (by intro; go_simp) (fun v43 => ?_)
  simp only [Act.put, sA, sB, sC]
  refine fV (by rfl) (by intro w1 hw1 hk1; obtain ⟨c0, c1, c2, c3, c4, c5⟩ := boxc6 (hw1.heap (HBW_.out.heap HXq.out)); go_simp) ?_
  simp only [Act.put, sA, sB, sC]
  refine fH (by rfl) (by intro w1 hw1 hk1; obtain ⟨g43, -, -, -, -, -, -, -, -, -, -, -⟩ := hk1; exact HC6_45.out _ _ _ g43 (HPq.out.bel (HBW.out.trans hw1))) (by intro; go_simp) (fun v45 => ?_)
  simp only [Act.put, sA, sB, sC]
  refine fV (by rfl) (by intro w1 hw1 hk1; obtain ⟨c0, c1, c2, c3, c4, c5⟩ := boxc6 (hw1.heap (HBW_.out.heap HXp.out)); go_simp) ?_
  simp only [Act.put, sA, sB, sC]
  refine fC (by rfl) (by intro w1 hw1 hk1; obtain ⟨g45, -, -, -, -, -, -, -, -, -, -, -, -⟩ := hk1; exact by have q := HC6_47.out _ _ _ g45 (HPp.out.bel (HBW.out.trans hw1)); rw [HL6_47.out] at q; exact q) (by intro; go_simp) ?_
  simp only [Act.put, sA, sB, sC]
  refine fV (by rfl) (by intro w1 hw1 hk1; go_simp) ?_
  simp only [Act.put, sA, sB, sC]
  refine fV (by rfl) (by intro w1 hw1 hk1; go_simp) ?_
  simp only [Act.put, sA, sB, sC]
  refine fC (by rfl) (by intro w1 hw1 hk1; exact HC6_50.out _) (by intro; go_simp) ?_
  simp only [Act.put, sA, sB, sC]
  refine fV (by rfl) (by intro w1 hw1 hk1; go_simp) ?_
  simp only [Act.put, sA, sB, sC]
  intro W8 hW8 hk1
  obtain ⟨g45, g43, g36, g34, g27, g20, g19, g16, g13, g7, g6, g3, -⟩ := hk1
  have hfb := HBW.out.trans hW8
  clear hW8 g3 g6 g7 g13 g16 g19 g20 g27 g34 g36 g43 g45
  go_wp2
  go_ret
  exact ⟨_, rfl, hfb, rfl⟩
set_option maxHeartbeats 4000000 in
set_option maxRecDepth 100000 in
theorem ptSquares_wakes {w : World} (p : Rp) (q : Rp) (HFAIR : [p, q].all (Rp.ok 6) = false) : Calls Tryz.prog 7 #[.agg p.row.toArray, .agg q.row.toArray] w (Makes w fun v _ => v = .bool true) := by
  obtain ⟨sp1, pp1, kp1, cp1, qp1, jp1, dp1, sp2, pp2, kp2, cp2, qp2, jp2, dp2⟩ := p
  obtain ⟨sq1, pq1, kq1, cq1, qq1, jq1, dq1, sq2, pq2, kq2, cq2, qq2, jq2, dq2⟩ := q
  change Calls _ _ #[.agg #[.bool sp1, .slice pp1 kp1 cp1, .slice qp1 jp1 dp1, .bool sp2, .slice pp2 kp2 cp2, .slice qp2 jp2 dp2], .agg #[.bool sq1, .slice pq1 kq1 cq1, .slice qq1 jq1 dq1, .bool sq2, .slice pq2 kq2 cq2, .slice qq2 jq2 dq2]] _ _
  have HC1_3 : Hid (∀ X u0, RpSl [⟨sp1, pp1, kp1, cp1, qp1, jp1, dp1, sp2, pp2, kp2, cp2, qp2, jp2, dp2⟩, ⟨sq1, pq1, kq1, cq1, qq1, jq1, dq1, sq2, pq2, kq2, cq2, qq2, jq2, dq2⟩] u0 X → Calls Tryz.prog 12 #[u0] X (Makes X fun v _ => v = .bool false)) := fun X u0 h0 => au_fair h0 (by simp) HFAIR
  have HC2_0 : Hid (∀ X, Calls Tryz.prog 14 #[] X (Makes X fun v _ => v = .bool true)) := fun X => wakes06_any X
  go_enter Tryz.func7, Tryz.ntmps7
  go_upto_region 1 with fail
  obtain ⟨hXp, hXq, hbw⟩ := boxes2 w (.cells #[.bool sp1, .slice pp1 kp1 cp1, .slice qp1 jp1 dp1, .bool sp2, .slice pp2 kp2 cp2, .slice qp2 jp2 dp2] 28) (.cells #[.bool sq1, .slice pq1 kq1 cq1, .slice qq1 jq1 dq1, .bool sq2, .slice pq2 kq2 cq2, .slice qq2 jq2 dq2] 28)
  obtain ⟨W, hW⟩ : ∃ W, (w.alloc (.cells #[.bool sp1, .slice pp1 kp1 cp1, .slice qp1 jp1 dp1, .bool sp2, .slice pp2 kp2 cp2, .slice qp2 jp2 dp2] 28)).alloc (.cells #[.bool sq1, .slice pq1 kq1 cq1, .slice qq1 jq1 dq1, .bool sq2, .slice pq2 kq2 cq2, .slice qq2 jq2 dq2] 28) = W := ⟨_, rfl⟩
  rw [hW] at hXp hXq hbw ⊢
  obtain ⟨Xp, eXp⟩ : ∃ X, w.heap.size = X := ⟨_, rfl⟩
  obtain ⟨Xq, eXq⟩ : ∃ X, Xp + 1 = X := ⟨_, rfl⟩
  rw [eXp, eXq]
  rw [eXp] at hXp hXq
  rw [eXq] at hXq
  have HXp := Lib.hid hXp
  have HXq := Lib.hid hXq
  have HBW := Lib.hid hbw
  have HGEXp : Hid (w.heap.size ≤ Xp) := by unfold Hid; omega
  have HGEXq : Hid (w.heap.size ≤ Xq) := by unfold Hid; omega
  have HLT : Hid (Xp < Xq) := by unfold Hid; omega
  clear hW hbw hXp hXq eXp eXq
  refine line_region 5 [[], [], [0, 1], [2], [3]] [.is (.agg #[.bool sp1, .slice pp1 kp1 cp1, .slice qp1 jp1 dp1, .bool sp2, .slice pp2 kp2 cp2, .slice qp2 jp2 dp2]), .is (.agg #[.bool sq1, .slice pq1 kq1 cq1, .slice qq1 jq1 dq1, .bool sq2, .slice pq2 kq2 cq2, .slice qq2 jq2 dq2]), .has (fun v w => RpSl [⟨sp1, pp1, kp1, cp1, qp1, jp1, dp1, sp2, pp2, kp2, cp2, qp2, jp2, dp2⟩, ⟨sq1, pq1, kq1, cq1, qq1, jq1, dq1, sq2, pq2, kq2, cq2, qq2, jq2, dq2⟩] v w), .is (.bool false), .is (.bool true)] rfl rfl (by decide) (by simp only [Steady]; exact ⟨fun _ _ _ h hb => h.bel hb, trivial⟩) ?_
  simp only [List.take_succ_cons, List.take_zero, List.drop_succ_cons, List.drop_zero]
  refine fV (by rfl) (by intro w1 hw1 hk1; obtain ⟨c0, c1, c2, c3, c4, c5⟩ := boxc6 (hw1.heap HXp.out); go_simp) ?_
  simp only [Act.put, sA, sB, sC]
  refine fV (by rfl) (by intro w1 hw1 hk1; obtain ⟨c0, c1, c2, c3, c4, c5⟩ := boxc6 (hw1.heap HXq.out); go_simp) ?_
  simp only [Act.put, sA, sB, sC]
  refine flow_has (by intro w1 hw1 hk1; refine want (by rfl) (gives_new (c := .slice (some ⟨w1.heap.size, 0, none⟩) 2 2) (w' := w1.alloc (.cells #[.bool sp1, .slice pp1 kp1 cp1, .slice qp1 jp1 dp1, .bool sp2, .slice pp2 kp2 cp2, .slice qp2 jp2 dp2, .bool sq1, .slice pq1 kq1 cq1, .slice qq1 jq1 dq1, .bool sq2, .slice pq2 kq2 cq2, .slice qq2 jq2 dq2] 28)) (by go_simp) ((Bel.refl w1).alloc _) (RpSl.new [⟨sp1, pp1, kp1, cp1, qp1, jp1, dp1, sp2, pp2, kp2, cp2, qp2, jp2, dp2⟩, ⟨sq1, pq1, kq1, cq1, qq1, jq1, dq1, sq2, pq2, kq2, cq2, qq2, jq2, dq2⟩] w1))) (fun v2 => ?_)
  simp only [Act.put, sA, sB, sC]
  refine fC (by rfl) (by intro w1 hw1 hk1; obtain ⟨g2, -⟩ := hk1; exact HC1_3.out _ _ g2) (by intro; go_simp) ?_
  simp only [Act.put, sA, sB, sC]
  refine fV (by rfl) (by intro w1 hw1 hk1; go_simp) ?_
  simp only [Act.put, sA, sB, sC]
  intro W1 hW1 hk1
  obtain ⟨g2, -⟩ := hk1
  have hb2 := hW1
  replace HBW := Lib.hid (HBW.out.trans hb2)
  have HBW_ := Lib.hid hb2
  clear hW1 g2 hb2
  go_upto_region 2 with fail
  refine line_region 1 [[]] [.is (.bool true)] rfl rfl (by decide) (by simp only [Steady]) ?_
  simp only [List.take_succ_cons, List.take_zero, List.drop_succ_cons, List.drop_zero]
  refine fC (by rfl) (by intro w1 hw1 hk1; exact HC2_0.out _) (by intro; go_simp) ?_
  simp only [Act.put, sA, sB, sC]
  intro W2 hW2 hk1
  have hfb := HBW.out.trans hW2
  clear hW2
  go_wp2
  go_ret
  exact ⟨_, rfl, hfb, rfl⟩
end Go.Proofs.YtafmfnpjhhaikaaGreatDoor

/-
  How three points in a row came in.
-/
namespace Go.Proofs.YtafmfnpjhhaikaaGreatDoor
open Go.ChangeShapes Go.WideShapes Go.ChangeAt Go.WideMaps Go.WideElems Go.RowKit Go.Deep

theorem cellsPts3 : Tryz.prog.cellsOf 65 = 18 := by kernel_rfl
theorem pts3Types : Tryz.prog.cellTypes Tryz.prog.depth 65 = some [4, 22, 22, 4, 22, 22, 4, 22, 22, 4, 22, 22, 4, 22, 22, 4, 22, 22] := by kernel_rfl
set_option maxRecDepth 100000 in
theorem opened_pts3 {H : Type} {enc : TypeId × Value → H} {W : World} {r : Reach} {base : Nat} {v : Value} {d : DataW H} {p : List MemPlace} (h : DataW.Trod enc Tryz.prog W 0 (fun _ => true) true 65 v d p) (hv : Value.okWide Tryz.prog W r base 65 v) :
    ∃ x y z : Rp, v = .agg (x.row ++ y.row ++ z.row).toArray ∧ PtIn W x ∧ PtIn W y ∧ PtIn W z := by
  simp only [Value.okWide, Tryz.underlying65] at hv
  obtain ⟨cs, rfl, -, ts, hts, -, hall⟩ := hv
  rw [pts3Types] at hts
  simp only [Option.some.injEq] at hts
  subst hts
  obtain ⟨n, hn⟩ := h
  obtain ⟨xs, m, _, _, hl, hxl, hx⟩ := DataW.trod_array Tryz.underlying65 hn
  rw [cellsPts3] at hl
  change cs.toList.length = 18 at hl
  have hg : ∀ i, i < 3 → ∃ x : Rp, ((cs.toList.drop (i * 6)).take 6) = x.row ∧ ((∃ l : List Nat, l.length = x.k1 ∧ R64 W (.slice x.p1 x.k1 x.c1) l) ∧ ∃ l : List Nat, l.length = x.j1 ∧ R64 W (.slice x.q1 x.j1 x.d1) l) ∧ (∃ l : List Nat, l.length = x.k2 ∧ R64 W (.slice x.p2 x.k2 x.c2) l) ∧ ∃ l : List Nat, l.length = x.j2 ∧ R64 W (.slice x.q2 x.j2 x.d2) l := fun i hi => by
    have h1 := hx i hi
    rw [cellsPt] at h1
    change DataW.trod enc Tryz.prog W 0 (fun _ => true) true m 28 ((cs.toList.drop (i * 6)).take 6) = _ at h1
    have h2 : ∃ y, DataW.trod enc Tryz.prog W 0 (fun _ => true) true m 28 ((cs.toList.drop (i * 6)).take 6) = some y := by
      rw [h1]
      exact ⟨_, List.getElem?_eq_getElem (by omega)⟩
    obtain ⟨y, h2⟩ := h2
    exact pt_open h2
  obtain ⟨x0, a0, ⟨b0, c0⟩, e0, f0⟩ := hg 0 (by omega)
  obtain ⟨x1, a1, ⟨b1, c1⟩, e1, f1⟩ := hg 1 (by omega)
  obtain ⟨x2, a2, ⟨b2, c2⟩, e2, f2⟩ := hg 2 (by omega)
  have hcs : cs = (x0.row ++ x1.row ++ x2.row).toArray := by
    have : cs.toList = x0.row ++ x1.row ++ x2.row := by
      rw [← a0, ← a1, ← a2]
      generalize cs.toList = L at hl ⊢
      have h6 : (L.drop (2 * 6)).take 6 = L.drop 12 := List.take_of_length_le (by rw [List.length_drop, hl]; decide)
      rw [h6]
      have h7 : L.drop 6 = (L.drop 6).take 6 ++ L.drop 12 := by
        have := (List.take_append_drop 6 (L.drop 6)).symm
        rwa [List.drop_drop] at this
      simp only [Nat.zero_mul, List.drop_zero, Nat.one_mul]
      rw [List.append_assoc, ← h7, List.take_append_drop]
    rw [← this]
  subst hcs
  have hc : ∀ (i : Nat) (p : Option Addr) (k c : Nat), (x0.row ++ x1.row ++ x2.row)[i]? = some (.slice p k c) → ([4, 22, 22, 4, 22, 22, 4, 22, 22, 4, 22, 22, 4, 22, 22, 4, 22, 22] : List TypeId)[i % 18]? = some 22 → PlainP p := fun i p k c hi ht => by
    obtain ⟨u', hu, hok⟩ := hall i _ (by rw [List.getElem?_toArray]; exact hi)
    simp only [List.length_cons, List.length_nil, Nat.zero_add, Nat.reduceAdd] at hu
    rw [ht] at hu
    cases hu
    exact plain_cell hok
  refine ⟨x0, x1, x2, rfl, ⟨⟨⟨hc 1 _ _ _ rfl rfl, b0⟩, hc 2 _ _ _ rfl rfl, c0⟩, ⟨hc 4 _ _ _ rfl rfl, e0⟩, hc 5 _ _ _ rfl rfl, f0⟩, ⟨⟨⟨hc 7 _ _ _ rfl rfl, b1⟩, hc 8 _ _ _ rfl rfl, c1⟩, ⟨hc 10 _ _ _ rfl rfl, e1⟩, hc 11 _ _ _ rfl rfl, f1⟩, ⟨⟨hc 13 _ _ _ rfl rfl, b2⟩, hc 14 _ _ _ rfl rfl, c2⟩, ⟨hc 16 _ _ _ rfl rfl, e2⟩, hc 17 _ _ _ rfl rfl, f2⟩
end Go.Proofs.YtafmfnpjhhaikaaGreatDoor
