/-
  A region in its written order, each operation told ahead.
-/
import Derived.Test.YtafmfnpjhhaikaaGreatDoorZah
import Derived.Test.YtafmfnpjhhaikaaGreatDoorZam
namespace Go.Proofs.YtafmfnpjhhaikaaGreatDoor
open Go.RowKit Go.Shelf
variable {P : Program} {ops : Array Oper} {w0 : World}
theorem All.known : ∀ {F : Facts} {ds : List Nat} {w : World}, All F w → Known F ds w
  | [], _, _, _ => trivial
  | (i, v, Φ) :: F, ds, w, h => by
    refine ⟨?_, h.2.known⟩
    cases ds.contains i
    · trivial
    · exact h.1
def FSteady (F : Facts) : Prop := ∀ e ∈ F, ∀ v w w', e.2.2 v w → Bel w w' → e.2.2 v w'
theorem All.bel : ∀ {F : Facts} {w w' : World}, FSteady F → All F w → Bel w w' → All F w'
  | [], _, _, _, _, _ => trivial
  | (_, v, _) :: _, w, w', hs, h, hb => ⟨hs _ (List.mem_cons_self ..) v w w' h.1 hb, h.2.bel (fun e he => hs e (List.mem_cons_of_mem _ he)) hb⟩
theorem gives_step {o : Oper} {a : Act} {w : World} {Φ : Value → World → Prop} {K : Act → World → Prop} {Q : Exit → Act → World → Prop} (hg : gives P o a w Φ) (hk : ∀ u w', Bel w w' → Φ u w' → K (a.put o.dst u) w') : o.wp P a w K Q := by
  unfold gives at hg
  unfold Oper.wp
  generalize (execOp a.eval o).run P w = r at hg ⊢
  cases r with
  | halt x w' => exact hg.elim
  | ok x w' =>
    cases x <;> simp only [givesUpon] at hg <;> simp only [Oper.upon]
    case value u => exact hk u w' hg.1 hg.2
    case skip => exact hk undef w' hg.1 hg.2
    case enter f args =>
      refine hg.mono fun e w'' he => ?_
      obtain ⟨u, rfl, h1, h2⟩ := he
      exact hk u w'' h1 h2
theorem line_flow {Q : Exit → Act → World → Prop} {rest : List Oper} : ∀ (ss : List Spec) (D : List (List Nat)) (os : List Oper) (i : Nat) (a : Act) (F : Facts) (w : World), D.length = ss.length → os.length = ss.length → Steady ss → FSteady F →
    flow P ops w0 (fun a' Kn => ∀ w', Bel w0 w' → Kn w' → wpList P ops Q rest a' w') D os ss i a F → Bel w0 w → All F w → wpList P ops Q (os ++ rest) a w
  | [], [], [], _, _, _, _, _, _, _, _, h, hb, hF => h _ hb hF
  | [], _ :: _, _, _, _, _, _, h1, _, _, _, _, _, _ => by simp at h1
  | [], [], _ :: _, _, _, _, _, _, h2, _, _, _, _, _ => by simp at h2
  | _ :: _, [], _, _, _, _, _, h1, _, _, _, _, _, _ => by simp at h1
  | _ :: _, _ :: _, [], _, _, _, _, _, h2, _, _, _, _, _ => by simp at h2
  | .is c :: ss, ds :: D, o :: os, i, a, F, w, h1, h2, hst, hfs, h, hb, hF => by
    have hv := h.1 w hb hF.known
    have hn : ∀ w', Bel w w' → wpList P ops Q (os ++ rest) (a.put o.dst c) w' := fun w' hb' => line_flow ss D os (i + 1) _ F w' (by simpa using h1) (by simpa using h2) hst hfs h.2 (hb.trans hb') (hF.bel hfs hb')
    simp only [List.cons_append, wpList]
    by_cases hw : Region.wanted o (yielded ops a.tmps) = true
    · rw [if_pos hw] at hv ⊢
      exact .inl (gives_step hv fun u w' hb' hu => by subst hu; exact hn w' hb')
    · rw [if_neg hw] at hv ⊢
      rw [hv]
      exact hn w (Bel.refl w)
  | .has Φ :: ss, ds :: D, o :: os, i, a, F, w, h1, h2, hst, hfs, h, hb, hF => by
    have hv := h.1 w hb hF.known
    have hfs' : ∀ v, FSteady ((i, v, Φ) :: F) := fun v e he => by
      rcases List.mem_cons.1 he with rfl | he
      · exact hst.1
      · exact hfs e he
    have hn : ∀ u w', Bel w w' → Φ u w' → wpList P ops Q (os ++ rest) (a.put o.dst u) w' := fun u w' hb' hu => line_flow ss D os (i + 1) _ _ w' (by simpa using h1) (by simpa using h2) hst.2 (hfs' u) (h.2 u) (hb.trans hb') ⟨hu, hF.bel hfs hb'⟩
    simp only [List.cons_append, wpList]
    by_cases hw : Region.wanted o (yielded ops a.tmps) = true
    · rw [if_pos hw] at hv ⊢
      exact .inl (gives_step hv fun u w' hb' hu => hn u w' hb' hu)
    · rw [if_neg hw] at hv ⊢
      exact hn undef w (Bel.refl w) hv
theorem line_region {id : Nat} {Q : Exit → Act → World → Prop} {a : Act} {w : World} {l : List Oper} (nq : Nat) (D : List (List Nat)) (ss : List Spec) (hD : D.length = ss.length) (hsl : ss.length = nq) (hle : nq ≤ l.length) (hst : Steady ss)
    (h : flow P l.toArray w (fun a' Kn => ∀ w', Bel w w' → Kn w' → wpList P l.toArray Q (l.drop nq) a' w') D (l.take nq) ss 0 a []) : (Code.region id l.toArray false).wp P Q a w := by
  refine wp_region_lit ?_
  have h1 := line_flow ss D (l.take nq) 0 a [] w hD (by rw [List.length_take]; omega) hst (fun e he => by cases he) h (Bel.refl w) trivial
  rwa [List.take_append_drop] at h1
end Go.Proofs.YtafmfnpjhhaikaaGreatDoor
namespace Go.Proofs.YtafmfnpjhhaikaaGreatDoor
open Go.RowKit Go.Shelf
/-- A point of two fractions, as it is made. -/
def PC (w : World) (v : Value) (x y : Rat) : Prop := ∃ s1 u1 d1 s2 u2 d2, v = .agg #[s1, u1, d1, s2, u2, d2] ∧ RC w (.agg #[s1, u1, d1]) x ∧ RC w (.agg #[s2, u2, d2]) y
/-- A point that can be read, its fractions of so many limbs. -/
def PS (k : Nat) (w : World) (v : Value) (x y : Rat) : Prop := ∃ s1 u1 d1 s2 u2 d2, v = .agg #[s1, u1, d1, s2, u2, d2] ∧ RS k w (.agg #[s1, u1, d1]) x ∧ RS k w (.agg #[s2, u2, d2]) y
theorem PC.bel {w w' : World} {v : Value} {x y : Rat} (h : PC w v x y) (hb : Bel w w') : PC w' v x y := by
  obtain ⟨s1, u1, d1, s2, u2, d2, h0, h1, h2⟩ := h
  exact ⟨s1, u1, d1, s2, u2, d2, h0, h1.bel hb, h2.bel hb⟩
theorem PS.bel {k : Nat} {w w' : World} {v : Value} {x y : Rat} (h : PS k w v x y) (hb : Bel w w') : PS k w' v x y := by
  obtain ⟨s1, u1, d1, s2, u2, d2, h0, h1, h2⟩ := h
  exact ⟨s1, u1, d1, s2, u2, d2, h0, h1.bel hb, h2.bel hb⟩
theorem PC.ps {w : World} {v : Value} {x y : Rat} {k : Nat} (h : PC w v x y) (hx : Sz k x) (hy : Sz k y) (hk : k ≤ LimK) : PS k w v x y := by
  obtain ⟨s1, u1, d1, s2, u2, d2, h0, h1, h2⟩ := h
  exact ⟨s1, u1, d1, s2, u2, d2, h0, h1.rs hx hk, h2.rs hy hk⟩
theorem PC.only {w w' : World} {b t : Nat} {v : Value} {cs : Array Value} {fr : Nat × Nat} {x y : Rat} (h : PC w v x y) (ho : OnlyG b w w') (hb : w.heap[b]? = some (.cells cs t fr)) (hn : NoInt .u64 cs) : PC w' v x y := by
  obtain ⟨s1, u1, d1, s2, u2, d2, h0, h1, h2⟩ := h
  exact ⟨s1, u1, d1, s2, u2, d2, h0, h1.only ho hb hn, h2.only ho hb hn⟩
theorem RI.only' {w w' : World} {b t : Nat} {v : Value} {cs : Array Value} {fr : Nat × Nat} {k : Nat} {q : Rat} (h : RS k w v q) (ho : OnlyG b w w') (hb : w.heap[b]? = some (.cells cs t fr)) (hn : NoInt .u64 cs) : RS k w' v q := ⟨h.1.only ho hb hn, h.2⟩
theorem PS.only {w w' : World} {b t : Nat} {v : Value} {cs : Array Value} {fr : Nat × Nat} {k : Nat} {x y : Rat} (h : PS k w v x y) (ho : OnlyG b w w') (hb : w.heap[b]? = some (.cells cs t fr)) (hn : NoInt .u64 cs) : PS k w' v x y := by
  obtain ⟨s1, u1, d1, s2, u2, d2, h0, h1, h2⟩ := h
  exact ⟨s1, u1, d1, s2, u2, d2, h0, RI.only' h1 ho hb hn, RI.only' h2 ho hb hn⟩
theorem noInt_pt (s : Bool) (p p' : Option Addr) (n c n' c' : Nat) (s2 : Bool) (p2 p2' : Option Addr) (n2 c2 n2' c2' : Nat) : NoInt .u64 #[.bool s, .slice p n c, .slice p' n' c', .bool s2, .slice p2 n2 c2, .slice p2' n2' c2'] := by
  intro v hv x
  simp at hv
  rcases hv with rfl | rfl | rfl | rfl | rfl | rfl <;> simp
theorem PC.slice {w : World} {v : Value} {x y : Rat} (h : PC w v x y) : ∃ p1 k1 c1 p2 k2 c2 p3 k3 c3 p4 k4 c4, v = .agg #[.bool (decide (x.num < 0)), .slice p1 k1 c1, .slice p2 k2 c2, .bool (decide (y.num < 0)), .slice p3 k3 c3, .slice p4 k4 c4] ∧
    RC w (.agg #[.bool (decide (x.num < 0)), .slice p1 k1 c1, .slice p2 k2 c2]) x ∧ RC w (.agg #[.bool (decide (y.num < 0)), .slice p3 k3 c3, .slice p4 k4 c4]) y := by
  obtain ⟨s1, u1, d1, s2, u2, d2, rfl, h1, h2⟩ := h
  obtain ⟨p1, k1, c1, p2, k2, c2, e1, -, -⟩ := h1.slice
  obtain ⟨p3, k3, c3, p4, k4, c4, e2, -, -⟩ := h2.slice
  simp only [Value.agg.injEq, Array.mk.injEq, List.cons.injEq, and_true] at e1 e2
  obtain ⟨rfl, rfl, rfl⟩ := e1
  obtain ⟨rfl, rfl, rfl⟩ := e2
  exact ⟨p1, k1, c1, p2, k2, c2, p3, k3, c3, p4, k4, c4, rfl, h1, h2⟩
theorem RS.parts {k : Nat} {w : World} {v : Value} {x : Rat} (h : RS k w v x) : ∃ s p n c q m d, v = .agg #[.bool s, .slice p n c, .slice q m d] := by
  obtain ⟨s, p, n, c, q, m, d, _, _, rfl, -⟩ := h.1.slice
  exact ⟨s, p, n, c, q, m, d, rfl⟩
theorem PS.parts {k : Nat} {w : World} {v : Value} {x y : Rat} (h : PS k w v x y) : ∃ s1 p1 k1 c1 p2 k2 c2 s2 p3 k3 c3 p4 k4 c4, v = .agg #[.bool s1, .slice p1 k1 c1, .slice p2 k2 c2, .bool s2, .slice p3 k3 c3, .slice p4 k4 c4] ∧
    RS k w (.agg #[.bool s1, .slice p1 k1 c1, .slice p2 k2 c2]) x ∧ RS k w (.agg #[.bool s2, .slice p3 k3 c3, .slice p4 k4 c4]) y := by
  obtain ⟨s1, u1, d1, s2, u2, d2, rfl, h1, h2⟩ := h
  obtain ⟨s, p1, k1, c1, p2, k2, c2, e1⟩ := h1.parts
  obtain ⟨s', p3, k3, c3, p4, k4, c4, e2⟩ := h2.parts
  simp only [Value.agg.injEq, Array.mk.injEq, List.cons.injEq, and_true] at e1 e2
  obtain ⟨rfl, rfl, rfl⟩ := e1
  obtain ⟨rfl, rfl, rfl⟩ := e2
  exact ⟨s, p1, k1, c1, p2, k2, c2, s', p3, k3, c3, p4, k4, c4, rfl, h1, h2⟩
set_option maxHeartbeats 4000000 in
set_option maxRecDepth 100000 in
theorem mk_both0 {g : FuncId} {w : World} {a b : Value} {x1 y1 x2 y2 R1 R2 : Rat} {i j : Nat} (HG : Hid (∀ (vs : Array Value) (X : World), (callFunc g vs).run Tryz.prog X = .ok (.enter g vs) X)) (ha : PS i w a x1 y1) (hb : PS j w b x2 y2) (HC1 : Hid (∀ X u v, Bel w X → RS i X u x1 → RS j X v x2 → Calls Tryz.prog g #[u, v] X (Makes X fun v w' => RC w' v R1)))
    (HC2 : Hid (∀ X u v, Bel w X → RS i X u y1 → RS j X v y2 → Calls Tryz.prog g #[u, v] X (Makes X fun v w' => RC w' v R2))) : Calls Tryz.prog 80 #[a, b, .func (.func g) #[] #[]] w (Makes w fun v w' => PC w' v R1 R2) := by
  obtain ⟨sa1, pa1, ka1, ca1, qa1, ja1, da1, sa2, pa2, ka2, ca2, qa2, ja2, da2, rfl, ha1, ha2⟩ := ha.parts
  have HPa := Lib.hid ha
  have HPa1 := Lib.hid ha1
  have HPa2 := Lib.hid ha2
  clear ha ha1 ha2
  obtain ⟨sb1, pb1, kb1, cb1, qb1, jb1, db1, sb2, pb2, kb2, cb2, qb2, jb2, db2, rfl, hb1, hb2⟩ := hb.parts
  have HPb := Lib.hid hb
  have HPb1 := Lib.hid hb1
  have HPb2 := Lib.hid hb2
  clear hb hb1 hb2
  go_enter Tryz.func80, Tryz.ntmps80
  go_upto_region 1 with fail
  obtain ⟨hXa, hXb, hXR, hbw⟩ := boxes3 w (.cells #[.bool sa1, .slice pa1 ka1 ca1, .slice qa1 ja1 da1, .bool sa2, .slice pa2 ka2 ca2, .slice qa2 ja2 da2] 28) (.cells #[.bool sb1, .slice pb1 kb1 cb1, .slice qb1 jb1 db1, .bool sb2, .slice pb2 kb2 cb2, .slice qb2 jb2 db2] 28) (.cells #[.bool false, .slice none 0 0, .slice none 0 0, .bool false, .slice none 0 0, .slice none 0 0] 28)
  obtain ⟨W, hW⟩ : ∃ W, ((w.alloc (.cells #[.bool sa1, .slice pa1 ka1 ca1, .slice qa1 ja1 da1, .bool sa2, .slice pa2 ka2 ca2, .slice qa2 ja2 da2] 28)).alloc (.cells #[.bool sb1, .slice pb1 kb1 cb1, .slice qb1 jb1 db1, .bool sb2, .slice pb2 kb2 cb2, .slice qb2 jb2 db2] 28)).alloc (.cells #[.bool false, .slice none 0 0, .slice none 0 0, .bool false, .slice none 0 0, .slice none 0 0] 28) = W := ⟨_, rfl⟩
  rw [hW] at hXa hXb hXR hbw ⊢
  obtain ⟨Xa, eXa⟩ : ∃ X, w.heap.size = X := ⟨_, rfl⟩
  obtain ⟨Xb, eXb⟩ : ∃ X, Xa + 1 = X := ⟨_, rfl⟩
  obtain ⟨XR, eXR⟩ : ∃ X, Xb + 1 = X := ⟨_, rfl⟩
  rw [eXa, eXb, eXR]
  rw [eXa] at hXa hXb hXR
  rw [eXb] at hXb hXR
  rw [eXR] at hXR
  have HXa := Lib.hid hXa
  have HXb := Lib.hid hXb
  have HXR := Lib.hid hXR
  have HBW := Lib.hid hbw
  have HGEXa : Hid (w.heap.size ≤ Xa) := by unfold Hid; omega
  have HGEXb : Hid (w.heap.size ≤ Xb) := by unfold Hid; omega
  have HGEXR : Hid (w.heap.size ≤ XR) := by unfold Hid; omega
  have HLT : Hid (Xa < Xb ∧ Xb < XR) := by unfold Hid; omega
  clear hW hbw hXa hXb hXR eXa eXb eXR
  refine region_flow 13 [[], [], [1], [], [3], [0, 2, 4], [], [], [7], [], [9], [6, 8, 10], [5, 11]] [.is (.func (.func g) #[] #[]), .is (.pointer (some ⟨Xa, 0, none⟩)), .is (.agg #[.bool sa1, .slice pa1 ka1 ca1, .slice qa1 ja1 da1]), .is (.pointer (some ⟨Xb, 0, none⟩)), .is (.agg #[.bool sb1, .slice pb1 kb1 cb1, .slice qb1 jb1 db1]), .has (fun v w => RC w v R1), .is (.func (.func g) #[] #[]), .is (.pointer (some ⟨Xa, 3, none⟩)), .is (.agg #[.bool sa2, .slice pa2 ka2 ca2, .slice qa2 ja2 da2]), .is (.pointer (some ⟨Xb, 3, none⟩)), .is (.agg #[.bool sb2, .slice pb2 kb2 cb2, .slice qb2 jb2 db2]), .has (fun v w => RC w v R2), .has (fun v w => PC w v R1 R2)] (by kernel_rfl) (by kernel_rfl) rfl (by simp only [Steady]; exact ⟨fun _ _ _ h hb => h.bel hb, fun _ _ _ h hb => h.bel hb, fun _ _ _ h hb => h.bel hb, trivial⟩) ?_
  simp only [List.take_succ_cons, List.take_zero, List.drop_succ_cons, List.drop_zero]
  refine fV (by rfl) (by intro w1 hw1 hk1; go_simp) ?_
  simp only [Act.put, sA, sB, sC]
  refine fV (by rfl) (by intro w1 hw1 hk1; go_simp) ?_
  simp only [Act.put, sA, sB, sC]
  refine fV (by rfl) (by intro w1 hw1 hk1; obtain ⟨c0, c1, c2, -, -, -⟩ := boxc6 (hw1.heap HXa.out); go_simp) ?_
  simp only [Act.put, sA, sB, sC]
  refine fV (by rfl) (by intro w1 hw1 hk1; go_simp) ?_
  simp only [Act.put, sA, sB, sC]
  refine fV (by rfl) (by intro w1 hw1 hk1; obtain ⟨c0, c1, c2, -, -, -⟩ := boxc6 (hw1.heap HXb.out); go_simp) ?_
  simp only [Act.put, sA, sB, sC]
  refine flow_has (by intro w1 hw1 hk1; refine want (by rfl) (gives_call (f := g) (args := #[.agg #[.bool sa1, .slice pa1 ka1 ca1, .slice qa1 ja1 da1], .agg #[.bool sb1, .slice pb1 kb1 cb1, .slice qb1 jb1 db1]]) (by go_simp; exact HG.out _ _) ?_); exact HC1.out _ _ _ (HBW.out.trans hw1) (HPa1.out.bel (HBW.out.trans hw1)) (HPb1.out.bel (HBW.out.trans hw1))) (fun v5 => ?_)
  simp only [Act.put, sA, sB, sC]
  refine fV (by rfl) (by intro w1 hw1 hk1; go_simp) ?_
  simp only [Act.put, sA, sB, sC]
  refine fV (by rfl) (by intro w1 hw1 hk1; go_simp) ?_
  simp only [Act.put, sA, sB, sC]
  refine fV (by rfl) (by intro w1 hw1 hk1; obtain ⟨-, -, -, c3, c4, c5⟩ := boxc6 (hw1.heap HXa.out); go_simp) ?_
  simp only [Act.put, sA, sB, sC]
  refine fV (by rfl) (by intro w1 hw1 hk1; go_simp) ?_
  simp only [Act.put, sA, sB, sC]
  refine fV (by rfl) (by intro w1 hw1 hk1; obtain ⟨-, -, -, c3, c4, c5⟩ := boxc6 (hw1.heap HXb.out); go_simp) ?_
  simp only [Act.put, sA, sB, sC]
  refine flow_has (by intro w1 hw1 hk1; refine want (by rfl) (gives_call (f := g) (args := #[.agg #[.bool sa2, .slice pa2 ka2 ca2, .slice qa2 ja2 da2], .agg #[.bool sb2, .slice pb2 kb2 cb2, .slice qb2 jb2 db2]]) (by go_simp; exact HG.out _ _) ?_); exact HC2.out _ _ _ (HBW.out.trans hw1) (HPa2.out.bel (HBW.out.trans hw1)) (HPb2.out.bel (HBW.out.trans hw1))) (fun v11 => ?_)
  simp only [Act.put, sA, sB, sC]
  refine flow_has (by intro w1 hw1 hk1; obtain ⟨g11, g5, -⟩ := hk1; obtain ⟨p1, k1, c1, p2, k2, c2, rfl, -⟩ := g5.slice; obtain ⟨p3, k3, c3, p4, k4, c4, rfl, -⟩ := g11.slice; refine want (by rfl) (gives_of (c := .agg #[.bool (decide (R1.num < 0)), .slice p1 k1 c1, .slice p2 k2 c2, .bool (decide (R2.num < 0)), .slice p3 k3 c3, .slice p4 k4 c4]) (by go_simp) ?_); exact ⟨_, _, _, _, _, _, rfl, g5, g11⟩) (fun v12 => ?_)
  simp only [Act.put, sA, sB, sC]
  intro w1 hw1 hk1
  obtain ⟨g12, g11, g5, -⟩ := hk1
  obtain ⟨pr1, kr1, cr1, qr1, jr1, dr1, pr2, kr2, cr2, qr2, jr2, dr2, rfl, -, -⟩ := g12.slice
  have HV := Lib.hid g12
  have HB3 := Lib.hid hw1
  have hhXR := (HB3.out).heap HXR.out
  have HHXR := Lib.hid hhXR
  have dXR0 : w1.cell? ⟨XR, 0, none⟩ = some (.bool false) := (heap_cell hhXR 0).trans rfl
  have fXR0 : w1.frozen? ⟨XR, 0, none⟩ = false := heap_frozen hhXR 0
  have dXR1 : w1.cell? ⟨XR, 1, none⟩ = some (.slice none 0 0) := (heap_cell hhXR 1).trans rfl
  have fXR1 : w1.frozen? ⟨XR, 1, none⟩ = false := heap_frozen hhXR 1
  have dXR2 : w1.cell? ⟨XR, 2, none⟩ = some (.slice none 0 0) := (heap_cell hhXR 2).trans rfl
  have fXR2 : w1.frozen? ⟨XR, 2, none⟩ = false := heap_frozen hhXR 2
  have dXR3 : w1.cell? ⟨XR, 3, none⟩ = some (.bool false) := (heap_cell hhXR 3).trans rfl
  have fXR3 : w1.frozen? ⟨XR, 3, none⟩ = false := heap_frozen hhXR 3
  have dXR4 : w1.cell? ⟨XR, 4, none⟩ = some (.slice none 0 0) := (heap_cell hhXR 4).trans rfl
  have fXR4 : w1.frozen? ⟨XR, 4, none⟩ = false := heap_frozen hhXR 4
  have dXR5 : w1.cell? ⟨XR, 5, none⟩ = some (.slice none 0 0) := (heap_cell hhXR 5).trans rfl
  have fXR5 : w1.frozen? ⟨XR, 5, none⟩ = false := heap_frozen hhXR 5
  clear hhXR
  clear hw1 g12 g11 g5
  go_wp2
  obtain ⟨kb, kp, kh⟩ := finAll (vs := [.bool (decide (R1.num < 0)), .slice pr1 kr1 cr1, .slice qr1 jr1 dr1, .bool (decide (R2.num < 0)), .slice pr2 kr2 cr2, .slice qr2 jr2 dr2]) (HBW.out.trans HB3.out) HHXR.out rfl HGEXR.out (Φ := fun W2 => PC W2 (.agg #[.bool (decide (R1.num < 0)), .slice pr1 kr1 cr1, .slice qr1 jr1 dr1, .bool (decide (R2.num < 0)), .slice pr2 kr2 cr2, .slice qr2 jr2 dr2]) R1 R2) (fun W2 ho => HV.out.only ho HHXR.out (noInt_pt _ _ _ _ _ _ _ _ _ _ _ _ _ _))
  have kk0 : (setAll w1 XR 0 [.bool (decide (R1.num < 0)), .slice pr1 kr1 cr1, .slice qr1 jr1 dr1, .bool (decide (R2.num < 0)), .slice pr2 kr2 cr2, .slice qr2 jr2 dr2]).cell? ⟨XR, 0, none⟩ = some (.bool (decide (R1.num < 0))) := (heap_cell kh 0).trans rfl
  have kk1 : (setAll w1 XR 0 [.bool (decide (R1.num < 0)), .slice pr1 kr1 cr1, .slice qr1 jr1 dr1, .bool (decide (R2.num < 0)), .slice pr2 kr2 cr2, .slice qr2 jr2 dr2]).cell? ⟨XR, 1, none⟩ = some (.slice pr1 kr1 cr1) := (heap_cell kh 1).trans rfl
  have kk2 : (setAll w1 XR 0 [.bool (decide (R1.num < 0)), .slice pr1 kr1 cr1, .slice qr1 jr1 dr1, .bool (decide (R2.num < 0)), .slice pr2 kr2 cr2, .slice qr2 jr2 dr2]).cell? ⟨XR, 2, none⟩ = some (.slice qr1 jr1 dr1) := (heap_cell kh 2).trans rfl
  have kk3 : (setAll w1 XR 0 [.bool (decide (R1.num < 0)), .slice pr1 kr1 cr1, .slice qr1 jr1 dr1, .bool (decide (R2.num < 0)), .slice pr2 kr2 cr2, .slice qr2 jr2 dr2]).cell? ⟨XR, 3, none⟩ = some (.bool (decide (R2.num < 0))) := (heap_cell kh 3).trans rfl
  have kk4 : (setAll w1 XR 0 [.bool (decide (R1.num < 0)), .slice pr1 kr1 cr1, .slice qr1 jr1 dr1, .bool (decide (R2.num < 0)), .slice pr2 kr2 cr2, .slice qr2 jr2 dr2]).cell? ⟨XR, 4, none⟩ = some (.slice pr2 kr2 cr2) := (heap_cell kh 4).trans rfl
  have kk5 : (setAll w1 XR 0 [.bool (decide (R1.num < 0)), .slice pr1 kr1 cr1, .slice qr1 jr1 dr1, .bool (decide (R2.num < 0)), .slice pr2 kr2 cr2, .slice qr2 jr2 dr2]).cell? ⟨XR, 5, none⟩ = some (.slice qr2 jr2 dr2) := (heap_cell kh 5).trans rfl
  simp only [setAll] at kb kp kk0 kk1 kk2 kk3 kk4 kk5
  exact bodyPost_ret (v := .agg #[.bool (decide (R1.num < 0)), .slice pr1 kr1 cr1, .slice qr1 jr1 dr1, .bool (decide (R2.num < 0)), .slice pr2 kr2 cr2, .slice qr2 jr2 dr2]) (by simp [results, Tryz.results80, go_sem, kk0, kk1, kk2, kk3, kk4, kk5]) rfl ⟨_, rfl, kb, kp⟩
set_option maxHeartbeats 4000000 in
set_option maxRecDepth 100000 in
theorem mk_both1 {g : FuncId} {w : World} {a b c : Value} {x1 y1 x2 y2 R1 R2 : Rat} {i j : Nat} (HG : Hid (∀ (vs : Array Value) (X : World), (callFunc g vs).run Tryz.prog X = .ok (.enter g vs) X)) (ha : PS i w a x1 y1) (hb : PS j w b x2 y2) (HC1 : Hid (∀ X u v, Bel w X → RS i X u x1 → RS j X v x2 → Calls Tryz.prog g #[u, v, c] X (Makes X fun v w' => RC w' v R1)))
    (HC2 : Hid (∀ X u v, Bel w X → RS i X u y1 → RS j X v y2 → Calls Tryz.prog g #[u, v, c] X (Makes X fun v w' => RC w' v R2))) : Calls Tryz.prog 80 #[a, b, .func (.func g) #[] #[c]] w (Makes w fun v w' => PC w' v R1 R2) := by
  obtain ⟨sa1, pa1, ka1, ca1, qa1, ja1, da1, sa2, pa2, ka2, ca2, qa2, ja2, da2, rfl, ha1, ha2⟩ := ha.parts
  have HPa := Lib.hid ha
  have HPa1 := Lib.hid ha1
  have HPa2 := Lib.hid ha2
  clear ha ha1 ha2
  obtain ⟨sb1, pb1, kb1, cb1, qb1, jb1, db1, sb2, pb2, kb2, cb2, qb2, jb2, db2, rfl, hb1, hb2⟩ := hb.parts
  have HPb := Lib.hid hb
  have HPb1 := Lib.hid hb1
  have HPb2 := Lib.hid hb2
  clear hb hb1 hb2
  go_enter Tryz.func80, Tryz.ntmps80
  go_upto_region 1 with fail
  obtain ⟨hXa, hXb, hXR, hbw⟩ := boxes3 w (.cells #[.bool sa1, .slice pa1 ka1 ca1, .slice qa1 ja1 da1, .bool sa2, .slice pa2 ka2 ca2, .slice qa2 ja2 da2] 28) (.cells #[.bool sb1, .slice pb1 kb1 cb1, .slice qb1 jb1 db1, .bool sb2, .slice pb2 kb2 cb2, .slice qb2 jb2 db2] 28) (.cells #[.bool false, .slice none 0 0, .slice none 0 0, .bool false, .slice none 0 0, .slice none 0 0] 28)
  obtain ⟨W, hW⟩ : ∃ W, ((w.alloc (.cells #[.bool sa1, .slice pa1 ka1 ca1, .slice qa1 ja1 da1, .bool sa2, .slice pa2 ka2 ca2, .slice qa2 ja2 da2] 28)).alloc (.cells #[.bool sb1, .slice pb1 kb1 cb1, .slice qb1 jb1 db1, .bool sb2, .slice pb2 kb2 cb2, .slice qb2 jb2 db2] 28)).alloc (.cells #[.bool false, .slice none 0 0, .slice none 0 0, .bool false, .slice none 0 0, .slice none 0 0] 28) = W := ⟨_, rfl⟩
  rw [hW] at hXa hXb hXR hbw ⊢
  obtain ⟨Xa, eXa⟩ : ∃ X, w.heap.size = X := ⟨_, rfl⟩
  obtain ⟨Xb, eXb⟩ : ∃ X, Xa + 1 = X := ⟨_, rfl⟩
  obtain ⟨XR, eXR⟩ : ∃ X, Xb + 1 = X := ⟨_, rfl⟩
  rw [eXa, eXb, eXR]
  rw [eXa] at hXa hXb hXR
  rw [eXb] at hXb hXR
  rw [eXR] at hXR
  have HXa := Lib.hid hXa
  have HXb := Lib.hid hXb
  have HXR := Lib.hid hXR
  have HBW := Lib.hid hbw
  have HGEXa : Hid (w.heap.size ≤ Xa) := by unfold Hid; omega
  have HGEXb : Hid (w.heap.size ≤ Xb) := by unfold Hid; omega
  have HGEXR : Hid (w.heap.size ≤ XR) := by unfold Hid; omega
  have HLT : Hid (Xa < Xb ∧ Xb < XR) := by unfold Hid; omega
  clear hW hbw hXa hXb hXR eXa eXb eXR
  refine region_flow 13 [[], [], [1], [], [3], [0, 2, 4], [], [], [7], [], [9], [6, 8, 10], [5, 11]] [.is (.func (.func g) #[] #[c]), .is (.pointer (some ⟨Xa, 0, none⟩)), .is (.agg #[.bool sa1, .slice pa1 ka1 ca1, .slice qa1 ja1 da1]), .is (.pointer (some ⟨Xb, 0, none⟩)), .is (.agg #[.bool sb1, .slice pb1 kb1 cb1, .slice qb1 jb1 db1]), .has (fun v w => RC w v R1), .is (.func (.func g) #[] #[c]), .is (.pointer (some ⟨Xa, 3, none⟩)), .is (.agg #[.bool sa2, .slice pa2 ka2 ca2, .slice qa2 ja2 da2]), .is (.pointer (some ⟨Xb, 3, none⟩)), .is (.agg #[.bool sb2, .slice pb2 kb2 cb2, .slice qb2 jb2 db2]), .has (fun v w => RC w v R2), .has (fun v w => PC w v R1 R2)] (by kernel_rfl) (by kernel_rfl) rfl (by simp only [Steady]; exact ⟨fun _ _ _ h hb => h.bel hb, fun _ _ _ h hb => h.bel hb, fun _ _ _ h hb => h.bel hb, trivial⟩) ?_
  simp only [List.take_succ_cons, List.take_zero, List.drop_succ_cons, List.drop_zero]
  refine fV (by rfl) (by intro w1 hw1 hk1; go_simp) ?_
  simp only [Act.put, sA, sB, sC]
  refine fV (by rfl) (by intro w1 hw1 hk1; go_simp) ?_
  simp only [Act.put, sA, sB, sC]
  refine fV (by rfl) (by intro w1 hw1 hk1; obtain ⟨c0, c1, c2, -, -, -⟩ := boxc6 (hw1.heap HXa.out); go_simp) ?_
  simp only [Act.put, sA, sB, sC]
  refine fV (by rfl) (by intro w1 hw1 hk1; go_simp) ?_
  simp only [Act.put, sA, sB, sC]
  refine fV (by rfl) (by intro w1 hw1 hk1; obtain ⟨c0, c1, c2, -, -, -⟩ := boxc6 (hw1.heap HXb.out); go_simp) ?_
  simp only [Act.put, sA, sB, sC]
  refine flow_has (by intro w1 hw1 hk1; refine want (by rfl) (gives_call (f := g) (args := #[.agg #[.bool sa1, .slice pa1 ka1 ca1, .slice qa1 ja1 da1], .agg #[.bool sb1, .slice pb1 kb1 cb1, .slice qb1 jb1 db1], c]) (by go_simp; exact HG.out _ _) ?_); exact HC1.out _ _ _ (HBW.out.trans hw1) (HPa1.out.bel (HBW.out.trans hw1)) (HPb1.out.bel (HBW.out.trans hw1))) (fun v5 => ?_)
  simp only [Act.put, sA, sB, sC]
  refine fV (by rfl) (by intro w1 hw1 hk1; go_simp) ?_
  simp only [Act.put, sA, sB, sC]
  refine fV (by rfl) (by intro w1 hw1 hk1; go_simp) ?_
  simp only [Act.put, sA, sB, sC]
  refine fV (by rfl) (by intro w1 hw1 hk1; obtain ⟨-, -, -, c3, c4, c5⟩ := boxc6 (hw1.heap HXa.out); go_simp) ?_
  simp only [Act.put, sA, sB, sC]
  refine fV (by rfl) (by intro w1 hw1 hk1; go_simp) ?_
  simp only [Act.put, sA, sB, sC]
  refine fV (by rfl) (by intro w1 hw1 hk1; obtain ⟨-, -, -, c3, c4, c5⟩ := boxc6 (hw1.heap HXb.out); go_simp) ?_
  simp only [Act.put, sA, sB, sC]
  refine flow_has (by intro w1 hw1 hk1; refine want (by rfl) (gives_call (f := g) (args := #[.agg #[.bool sa2, .slice pa2 ka2 ca2, .slice qa2 ja2 da2], .agg #[.bool sb2, .slice pb2 kb2 cb2, .slice qb2 jb2 db2], c]) (by go_simp; exact HG.out _ _) ?_); exact HC2.out _ _ _ (HBW.out.trans hw1) (HPa2.out.bel (HBW.out.trans hw1)) (HPb2.out.bel (HBW.out.trans hw1))) (fun v11 => ?_)
  simp only [Act.put, sA, sB, sC]
  refine flow_has (by intro w1 hw1 hk1; obtain ⟨g11, g5, -⟩ := hk1; obtain ⟨p1, k1, c1, p2, k2, c2, rfl, -⟩ := g5.slice; obtain ⟨p3, k3, c3, p4, k4, c4, rfl, -⟩ := g11.slice; refine want (by rfl) (gives_of (c := .agg #[.bool (decide (R1.num < 0)), .slice p1 k1 c1, .slice p2 k2 c2, .bool (decide (R2.num < 0)), .slice p3 k3 c3, .slice p4 k4 c4]) (by go_simp) ?_); exact ⟨_, _, _, _, _, _, rfl, g5, g11⟩) (fun v12 => ?_)
  simp only [Act.put, sA, sB, sC]
  intro w1 hw1 hk1
  obtain ⟨g12, g11, g5, -⟩ := hk1
  obtain ⟨pr1, kr1, cr1, qr1, jr1, dr1, pr2, kr2, cr2, qr2, jr2, dr2, rfl, -, -⟩ := g12.slice
  have HV := Lib.hid g12
  have HB3 := Lib.hid hw1
  have hhXR := (HB3.out).heap HXR.out
  have HHXR := Lib.hid hhXR
  have dXR0 : w1.cell? ⟨XR, 0, none⟩ = some (.bool false) := (heap_cell hhXR 0).trans rfl
  have fXR0 : w1.frozen? ⟨XR, 0, none⟩ = false := heap_frozen hhXR 0
  have dXR1 : w1.cell? ⟨XR, 1, none⟩ = some (.slice none 0 0) := (heap_cell hhXR 1).trans rfl
  have fXR1 : w1.frozen? ⟨XR, 1, none⟩ = false := heap_frozen hhXR 1
  have dXR2 : w1.cell? ⟨XR, 2, none⟩ = some (.slice none 0 0) := (heap_cell hhXR 2).trans rfl
  have fXR2 : w1.frozen? ⟨XR, 2, none⟩ = false := heap_frozen hhXR 2
  have dXR3 : w1.cell? ⟨XR, 3, none⟩ = some (.bool false) := (heap_cell hhXR 3).trans rfl
  have fXR3 : w1.frozen? ⟨XR, 3, none⟩ = false := heap_frozen hhXR 3
  have dXR4 : w1.cell? ⟨XR, 4, none⟩ = some (.slice none 0 0) := (heap_cell hhXR 4).trans rfl
  have fXR4 : w1.frozen? ⟨XR, 4, none⟩ = false := heap_frozen hhXR 4
  have dXR5 : w1.cell? ⟨XR, 5, none⟩ = some (.slice none 0 0) := (heap_cell hhXR 5).trans rfl
  have fXR5 : w1.frozen? ⟨XR, 5, none⟩ = false := heap_frozen hhXR 5
  clear hhXR
  clear hw1 g12 g11 g5
  go_wp2
  obtain ⟨kb, kp, kh⟩ := finAll (vs := [.bool (decide (R1.num < 0)), .slice pr1 kr1 cr1, .slice qr1 jr1 dr1, .bool (decide (R2.num < 0)), .slice pr2 kr2 cr2, .slice qr2 jr2 dr2]) (HBW.out.trans HB3.out) HHXR.out rfl HGEXR.out (Φ := fun W2 => PC W2 (.agg #[.bool (decide (R1.num < 0)), .slice pr1 kr1 cr1, .slice qr1 jr1 dr1, .bool (decide (R2.num < 0)), .slice pr2 kr2 cr2, .slice qr2 jr2 dr2]) R1 R2) (fun W2 ho => HV.out.only ho HHXR.out (noInt_pt _ _ _ _ _ _ _ _ _ _ _ _ _ _))
  have kk0 : (setAll w1 XR 0 [.bool (decide (R1.num < 0)), .slice pr1 kr1 cr1, .slice qr1 jr1 dr1, .bool (decide (R2.num < 0)), .slice pr2 kr2 cr2, .slice qr2 jr2 dr2]).cell? ⟨XR, 0, none⟩ = some (.bool (decide (R1.num < 0))) := (heap_cell kh 0).trans rfl
  have kk1 : (setAll w1 XR 0 [.bool (decide (R1.num < 0)), .slice pr1 kr1 cr1, .slice qr1 jr1 dr1, .bool (decide (R2.num < 0)), .slice pr2 kr2 cr2, .slice qr2 jr2 dr2]).cell? ⟨XR, 1, none⟩ = some (.slice pr1 kr1 cr1) := (heap_cell kh 1).trans rfl
  have kk2 : (setAll w1 XR 0 [.bool (decide (R1.num < 0)), .slice pr1 kr1 cr1, .slice qr1 jr1 dr1, .bool (decide (R2.num < 0)), .slice pr2 kr2 cr2, .slice qr2 jr2 dr2]).cell? ⟨XR, 2, none⟩ = some (.slice qr1 jr1 dr1) := (heap_cell kh 2).trans rfl
  have kk3 : (setAll w1 XR 0 [.bool (decide (R1.num < 0)), .slice pr1 kr1 cr1, .slice qr1 jr1 dr1, .bool (decide (R2.num < 0)), .slice pr2 kr2 cr2, .slice qr2 jr2 dr2]).cell? ⟨XR, 3, none⟩ = some (.bool (decide (R2.num < 0))) := (heap_cell kh 3).trans rfl
  have kk4 : (setAll w1 XR 0 [.bool (decide (R1.num < 0)), .slice pr1 kr1 cr1, .slice qr1 jr1 dr1, .bool (decide (R2.num < 0)), .slice pr2 kr2 cr2, .slice qr2 jr2 dr2]).cell? ⟨XR, 4, none⟩ = some (.slice pr2 kr2 cr2) := (heap_cell kh 4).trans rfl
  have kk5 : (setAll w1 XR 0 [.bool (decide (R1.num < 0)), .slice pr1 kr1 cr1, .slice qr1 jr1 dr1, .bool (decide (R2.num < 0)), .slice pr2 kr2 cr2, .slice qr2 jr2 dr2]).cell? ⟨XR, 5, none⟩ = some (.slice qr2 jr2 dr2) := (heap_cell kh 5).trans rfl
  simp only [setAll] at kb kp kk0 kk1 kk2 kk3 kk4 kk5
  exact bodyPost_ret (v := .agg #[.bool (decide (R1.num < 0)), .slice pr1 kr1 cr1, .slice qr1 jr1 dr1, .bool (decide (R2.num < 0)), .slice pr2 kr2 cr2, .slice qr2 jr2 dr2]) (by simp [results, Tryz.results80, go_sem, kk0, kk1, kk2, kk3, kk4, kk5]) rfl ⟨_, rfl, kb, kp⟩
set_option maxHeartbeats 4000000 in
set_option maxRecDepth 100000 in
theorem mk_scale1 {w : World} {a b k : Value} {x z : Rat} {i j X : Nat} {cs : Array Value} (ha : RS i w a x) (hk : RS j w k z) (hb : ∃ s p n c q m d, b = .agg #[.bool s, .slice p n c, .slice q m d]) (hl : i + j < LimK) (hX : w.heap[X]? = some (.cells cs 26 (0, 0))) (he : k = .agg cs) :
    Calls Tryz.prog 83 #[a, b, .pointer (some ⟨X, 0, none⟩)] w (Makes w fun v w' => RC w' v (x * z)) := by
  have HD := Lib.hid (fun X (hX : Bel w X) => mk_rmul (ha.bel hX) (hk.bel hX) hl)
  obtain ⟨R, hR⟩ : ∃ Z, x * z = Z := ⟨_, rfl⟩
  rw [hR] at HD ⊢
  obtain ⟨sa1, pa1, ka1, ca1, qa1, ja1, da1, rfl⟩ := ha.parts
  obtain ⟨sk1, pk1, kk1, ck1, qk1, jk1, dk1, rfl⟩ := hk.parts
  obtain ⟨sb1, pb1, kb1, cb1, qb1, jb1, db1, rfl⟩ := hb
  have hcs : #[.bool sk1, .slice pk1 kk1 ck1, .slice qk1 jk1 dk1] = cs := by simpa using he
  subst hcs
  have HXk0 := Lib.hid hX
  clear ha hk hR hl hX he
  go_enter Tryz.func83, Tryz.ntmps83
  go_upto_region 1 with fail
  obtain ⟨hXa, hXb, hXR, hbw⟩ := boxes3 w (.cells #[.bool sa1, .slice pa1 ka1 ca1, .slice qa1 ja1 da1] 26) (.cells #[.bool sb1, .slice pb1 kb1 cb1, .slice qb1 jb1 db1] 26) (.cells #[.bool false, .slice none 0 0, .slice none 0 0] 26)
  obtain ⟨W, hW⟩ : ∃ W, ((w.alloc (.cells #[.bool sa1, .slice pa1 ka1 ca1, .slice qa1 ja1 da1] 26)).alloc (.cells #[.bool sb1, .slice pb1 kb1 cb1, .slice qb1 jb1 db1] 26)).alloc (.cells #[.bool false, .slice none 0 0, .slice none 0 0] 26) = W := ⟨_, rfl⟩
  rw [hW] at hXa hXb hXR hbw ⊢
  obtain ⟨Xa, eXa⟩ : ∃ X, w.heap.size = X := ⟨_, rfl⟩
  obtain ⟨Xb, eXb⟩ : ∃ X, Xa + 1 = X := ⟨_, rfl⟩
  obtain ⟨XR, eXR⟩ : ∃ X, Xb + 1 = X := ⟨_, rfl⟩
  rw [eXa, eXb, eXR]
  rw [eXa] at hXa hXb hXR
  rw [eXb] at hXb hXR
  rw [eXR] at hXR
  have HXa := Lib.hid hXa
  have HXb := Lib.hid hXb
  have HXR := Lib.hid hXR
  have HBW := Lib.hid hbw
  have HGEXa : Hid (w.heap.size ≤ Xa) := by unfold Hid; omega
  have HGEXb : Hid (w.heap.size ≤ Xb) := by unfold Hid; omega
  have HGEXR : Hid (w.heap.size ≤ XR) := by unfold Hid; omega
  have HLT : Hid (Xa < Xb ∧ Xb < XR) := by unfold Hid; omega
  clear hW hbw hXa hXb hXR eXa eXb eXR
  have HXk := Lib.hid (HBW.out.heap HXk0.out)
  refine line_region 3 [[], [], [0, 1]] [.is (.agg #[.bool sa1, .slice pa1 ka1 ca1, .slice qa1 ja1 da1]), .is (.agg #[.bool sk1, .slice pk1 kk1 ck1, .slice qk1 jk1 dk1]), .has (fun v w => RC w v R)] rfl rfl (by decide) (by simp only [Steady]; exact ⟨fun _ _ _ h hb => h.bel hb, trivial⟩) ?_
  simp only [List.take_succ_cons, List.take_zero, List.drop_succ_cons, List.drop_zero]
  refine fV (by rfl) (by intro w1 hw1 hk1; obtain ⟨c0, c1, c2⟩ := boxc3 (hw1.heap HXa.out); go_simp) ?_
  simp only [Act.put, sA, sB, sC]
  refine fV (by rfl) (by intro w1 hw1 hk1; obtain ⟨c0, c1, c2⟩ := boxc3 (hw1.heap HXk.out); go_simp) ?_
  simp only [Act.put, sA, sB, sC]
  refine fH (by rfl) (by intro w1 hw1 hk1; exact HD.out _ (HBW.out.trans hw1)) (by intro; go_simp) (fun v2 => ?_)
  simp only [Act.put, sA, sB, sC]
  intro w1 hw1 hk1
  obtain ⟨g2, -⟩ := hk1
  obtain ⟨pr1, kr1, cr1, qr1, jr1, dr1, rfl, -, -⟩ := g2.slice
  have HV := Lib.hid g2
  have HB3 := Lib.hid hw1
  have hhXR := (HB3.out).heap HXR.out
  have HHXR := Lib.hid hhXR
  have dXR0 : w1.cell? ⟨XR, 0, none⟩ = some (.bool false) := (heap_cell hhXR 0).trans rfl
  have fXR0 : w1.frozen? ⟨XR, 0, none⟩ = false := heap_frozen hhXR 0
  have dXR1 : w1.cell? ⟨XR, 1, none⟩ = some (.slice none 0 0) := (heap_cell hhXR 1).trans rfl
  have fXR1 : w1.frozen? ⟨XR, 1, none⟩ = false := heap_frozen hhXR 1
  have dXR2 : w1.cell? ⟨XR, 2, none⟩ = some (.slice none 0 0) := (heap_cell hhXR 2).trans rfl
  have fXR2 : w1.frozen? ⟨XR, 2, none⟩ = false := heap_frozen hhXR 2
  clear hhXR
  clear hw1 g2 HD
  go_wp2
  obtain ⟨kb, kp, kh⟩ := finAll (vs := [.bool (decide (R.num < 0)), .slice pr1 kr1 cr1, .slice qr1 jr1 dr1]) (HBW.out.trans HB3.out) HHXR.out rfl HGEXR.out (Φ := fun W2 => RC W2 (.agg #[.bool (decide (R.num < 0)), .slice pr1 kr1 cr1, .slice qr1 jr1 dr1]) R) (fun W2 ho => HV.out.only ho HHXR.out (noInt_rat _ _ _ _ _ _ _))
  have kk0 : (setAll w1 XR 0 [.bool (decide (R.num < 0)), .slice pr1 kr1 cr1, .slice qr1 jr1 dr1]).cell? ⟨XR, 0, none⟩ = some (.bool (decide (R.num < 0))) := (heap_cell kh 0).trans rfl
  have kk1 : (setAll w1 XR 0 [.bool (decide (R.num < 0)), .slice pr1 kr1 cr1, .slice qr1 jr1 dr1]).cell? ⟨XR, 1, none⟩ = some (.slice pr1 kr1 cr1) := (heap_cell kh 1).trans rfl
  have kk2 : (setAll w1 XR 0 [.bool (decide (R.num < 0)), .slice pr1 kr1 cr1, .slice qr1 jr1 dr1]).cell? ⟨XR, 2, none⟩ = some (.slice qr1 jr1 dr1) := (heap_cell kh 2).trans rfl
  simp only [setAll] at kb kp kk0 kk1 kk2
  exact bodyPost_ret (v := .agg #[.bool (decide (R.num < 0)), .slice pr1 kr1 cr1, .slice qr1 jr1 dr1]) (by simp [results, Tryz.results83, go_sem, kk0, kk1, kk2]) rfl ⟨_, rfl, kb, kp⟩
set_option maxHeartbeats 4000000 in
set_option maxRecDepth 100000 in
theorem mk_scale {w : World} {a k : Value} {x y z : Rat} {i j : Nat} (ha : PS i w a x y) (hk : RS j w k z) (hl : i + j < LimK) : Calls Tryz.prog 25 #[a, k] w (Makes w fun v w' => PC w' v (x * z) (y * z)) := by
  have HD : Hid (∀ (X : World) (B : Nat) (cs : Array Value) (_ : Bel w X) (_ : X.heap[B]? = some (.cells cs 26 (0, 0))) (_ : k = .agg cs), _) := fun X B cs hX hB hc => mk_both1 (g := 83) (c := .pointer (some ⟨B, 0, none⟩)) (Lib.hid (fun _ _ => by go_simp)) (ha.bel hX) (ha.bel hX)
    (Lib.hid (fun Y u v hY hu hv => mk_scale1 hu (hk.bel (hX.trans hY)) hv.parts hl (hY.heap hB) hc)) (Lib.hid (fun Y u v hY hu hv => mk_scale1 hu (hk.bel (hX.trans hY)) hv.parts hl (hY.heap hB) hc))
  obtain ⟨R1, hR1⟩ : ∃ Z, x * z = Z := ⟨_, rfl⟩
  obtain ⟨R2, hR2⟩ : ∃ Z, y * z = Z := ⟨_, rfl⟩
  rw [hR1, hR2] at HD ⊢
  clear hR1 hR2 hl
  obtain ⟨sa1, pa1, ka1, ca1, qa1, ja1, da1, sa2, pa2, ka2, ca2, qa2, ja2, da2, rfl, ha1, ha2⟩ := ha.parts
  have HPa := Lib.hid ha
  have HPa1 := Lib.hid ha1
  have HPa2 := Lib.hid ha2
  clear ha ha1 ha2
  obtain ⟨sk1, pk1, kk1, ck1, qk1, jk1, dk1, rfl⟩ := hk.parts
  have HPk := Lib.hid hk
  clear hk
  go_enter Tryz.func25, Tryz.ntmps25
  go_upto_region 1 with fail
  obtain ⟨hXa, hXk, hXR, hbw⟩ := boxes3 w (.cells #[.bool sa1, .slice pa1 ka1 ca1, .slice qa1 ja1 da1, .bool sa2, .slice pa2 ka2 ca2, .slice qa2 ja2 da2] 28) (.cells #[.bool sk1, .slice pk1 kk1 ck1, .slice qk1 jk1 dk1] 26) (.cells #[.bool false, .slice none 0 0, .slice none 0 0, .bool false, .slice none 0 0, .slice none 0 0] 28)
  obtain ⟨W, hW⟩ : ∃ W, ((w.alloc (.cells #[.bool sa1, .slice pa1 ka1 ca1, .slice qa1 ja1 da1, .bool sa2, .slice pa2 ka2 ca2, .slice qa2 ja2 da2] 28)).alloc (.cells #[.bool sk1, .slice pk1 kk1 ck1, .slice qk1 jk1 dk1] 26)).alloc (.cells #[.bool false, .slice none 0 0, .slice none 0 0, .bool false, .slice none 0 0, .slice none 0 0] 28) = W := ⟨_, rfl⟩
  rw [hW] at hXa hXk hXR hbw ⊢
  obtain ⟨Xa, eXa⟩ : ∃ X, w.heap.size = X := ⟨_, rfl⟩
  obtain ⟨Xk, eXk⟩ : ∃ X, Xa + 1 = X := ⟨_, rfl⟩
  obtain ⟨XR, eXR⟩ : ∃ X, Xk + 1 = X := ⟨_, rfl⟩
  rw [eXa, eXk, eXR]
  rw [eXa] at hXa hXk hXR
  rw [eXk] at hXk hXR
  rw [eXR] at hXR
  have HXa := Lib.hid hXa
  have HXk := Lib.hid hXk
  have HXR := Lib.hid hXR
  have HBW := Lib.hid hbw
  have HGEXa : Hid (w.heap.size ≤ Xa) := by unfold Hid; omega
  have HGEXk : Hid (w.heap.size ≤ Xk) := by unfold Hid; omega
  have HGEXR : Hid (w.heap.size ≤ XR) := by unfold Hid; omega
  have HLT : Hid (Xa < Xk ∧ Xk < XR) := by unfold Hid; omega
  clear hW hbw hXa hXk hXR eXa eXk eXR
  have HD' := Lib.hid (fun X (hX : Bel W X) => HD.out X Xk _ (HBW.out.trans hX) (hX.heap HXk.out) rfl)
  clear HD
  refine line_region 4 [[], [], [], [0, 1, 2]] [.is (.agg #[.bool sa1, .slice pa1 ka1 ca1, .slice qa1 ja1 da1, .bool sa2, .slice pa2 ka2 ca2, .slice qa2 ja2 da2]), .is (.agg #[.bool sa1, .slice pa1 ka1 ca1, .slice qa1 ja1 da1, .bool sa2, .slice pa2 ka2 ca2, .slice qa2 ja2 da2]), .is (.func (.func 83) #[] #[.pointer (some ⟨Xk, 0, none⟩)]), .has (fun v w => PC w v R1 R2)] rfl rfl (by decide) (by simp only [Steady]; exact ⟨fun _ _ _ h hb => h.bel hb, trivial⟩) ?_
  simp only [List.take_succ_cons, List.take_zero, List.drop_succ_cons, List.drop_zero]
  refine fV (by rfl) (by intro w1 hw1 hk1; obtain ⟨c0, c1, c2, c3, c4, c5⟩ := boxc6 (hw1.heap HXa.out); go_simp) ?_
  simp only [Act.put, sA, sB, sC]
  refine fV (by rfl) (by intro w1 hw1 hk1; obtain ⟨c0, c1, c2, c3, c4, c5⟩ := boxc6 (hw1.heap HXa.out); go_simp) ?_
  simp only [Act.put, sA, sB, sC]
  refine fV (by rfl) (by intro w1 hw1 hk1; go_simp) ?_
  simp only [Act.put, sA, sB, sC]
  refine fH (by rfl) (by intro w1 hw1 hk1; exact HD'.out _ hw1) (by intro; go_simp) (fun v3 => ?_)
  simp only [Act.put, sA, sB, sC]
  intro w1 hw1 hk1
  obtain ⟨g3, -⟩ := hk1
  obtain ⟨pr1, kr1, cr1, qr1, jr1, dr1, pr2, kr2, cr2, qr2, jr2, dr2, rfl, -, -⟩ := g3.slice
  have HV := Lib.hid g3
  have HB3 := Lib.hid hw1
  have hhXR := (HB3.out).heap HXR.out
  have HHXR := Lib.hid hhXR
  have dXR0 : w1.cell? ⟨XR, 0, none⟩ = some (.bool false) := (heap_cell hhXR 0).trans rfl
  have fXR0 : w1.frozen? ⟨XR, 0, none⟩ = false := heap_frozen hhXR 0
  have dXR1 : w1.cell? ⟨XR, 1, none⟩ = some (.slice none 0 0) := (heap_cell hhXR 1).trans rfl
  have fXR1 : w1.frozen? ⟨XR, 1, none⟩ = false := heap_frozen hhXR 1
  have dXR2 : w1.cell? ⟨XR, 2, none⟩ = some (.slice none 0 0) := (heap_cell hhXR 2).trans rfl
  have fXR2 : w1.frozen? ⟨XR, 2, none⟩ = false := heap_frozen hhXR 2
  have dXR3 : w1.cell? ⟨XR, 3, none⟩ = some (.bool false) := (heap_cell hhXR 3).trans rfl
  have fXR3 : w1.frozen? ⟨XR, 3, none⟩ = false := heap_frozen hhXR 3
  have dXR4 : w1.cell? ⟨XR, 4, none⟩ = some (.slice none 0 0) := (heap_cell hhXR 4).trans rfl
  have fXR4 : w1.frozen? ⟨XR, 4, none⟩ = false := heap_frozen hhXR 4
  have dXR5 : w1.cell? ⟨XR, 5, none⟩ = some (.slice none 0 0) := (heap_cell hhXR 5).trans rfl
  have fXR5 : w1.frozen? ⟨XR, 5, none⟩ = false := heap_frozen hhXR 5
  clear hhXR
  clear hw1 g3 HD'
  go_wp2
  obtain ⟨kb, kp, kh⟩ := finAll (vs := [.bool (decide (R1.num < 0)), .slice pr1 kr1 cr1, .slice qr1 jr1 dr1, .bool (decide (R2.num < 0)), .slice pr2 kr2 cr2, .slice qr2 jr2 dr2]) (HBW.out.trans HB3.out) HHXR.out rfl HGEXR.out (Φ := fun W2 => PC W2 (.agg #[.bool (decide (R1.num < 0)), .slice pr1 kr1 cr1, .slice qr1 jr1 dr1, .bool (decide (R2.num < 0)), .slice pr2 kr2 cr2, .slice qr2 jr2 dr2]) R1 R2) (fun W2 ho => HV.out.only ho HHXR.out (noInt_pt _ _ _ _ _ _ _ _ _ _ _ _ _ _))
  have kk0 : (setAll w1 XR 0 [.bool (decide (R1.num < 0)), .slice pr1 kr1 cr1, .slice qr1 jr1 dr1, .bool (decide (R2.num < 0)), .slice pr2 kr2 cr2, .slice qr2 jr2 dr2]).cell? ⟨XR, 0, none⟩ = some (.bool (decide (R1.num < 0))) := (heap_cell kh 0).trans rfl
  have kk1 : (setAll w1 XR 0 [.bool (decide (R1.num < 0)), .slice pr1 kr1 cr1, .slice qr1 jr1 dr1, .bool (decide (R2.num < 0)), .slice pr2 kr2 cr2, .slice qr2 jr2 dr2]).cell? ⟨XR, 1, none⟩ = some (.slice pr1 kr1 cr1) := (heap_cell kh 1).trans rfl
  have kk2 : (setAll w1 XR 0 [.bool (decide (R1.num < 0)), .slice pr1 kr1 cr1, .slice qr1 jr1 dr1, .bool (decide (R2.num < 0)), .slice pr2 kr2 cr2, .slice qr2 jr2 dr2]).cell? ⟨XR, 2, none⟩ = some (.slice qr1 jr1 dr1) := (heap_cell kh 2).trans rfl
  have kk3 : (setAll w1 XR 0 [.bool (decide (R1.num < 0)), .slice pr1 kr1 cr1, .slice qr1 jr1 dr1, .bool (decide (R2.num < 0)), .slice pr2 kr2 cr2, .slice qr2 jr2 dr2]).cell? ⟨XR, 3, none⟩ = some (.bool (decide (R2.num < 0))) := (heap_cell kh 3).trans rfl
  have kk4 : (setAll w1 XR 0 [.bool (decide (R1.num < 0)), .slice pr1 kr1 cr1, .slice qr1 jr1 dr1, .bool (decide (R2.num < 0)), .slice pr2 kr2 cr2, .slice qr2 jr2 dr2]).cell? ⟨XR, 4, none⟩ = some (.slice pr2 kr2 cr2) := (heap_cell kh 4).trans rfl
  have kk5 : (setAll w1 XR 0 [.bool (decide (R1.num < 0)), .slice pr1 kr1 cr1, .slice qr1 jr1 dr1, .bool (decide (R2.num < 0)), .slice pr2 kr2 cr2, .slice qr2 jr2 dr2]).cell? ⟨XR, 5, none⟩ = some (.slice qr2 jr2 dr2) := (heap_cell kh 5).trans rfl
  simp only [setAll] at kb kp kk0 kk1 kk2 kk3 kk4 kk5
  exact bodyPost_ret (v := .agg #[.bool (decide (R1.num < 0)), .slice pr1 kr1 cr1, .slice qr1 jr1 dr1, .bool (decide (R2.num < 0)), .slice pr2 kr2 cr2, .slice qr2 jr2 dr2]) (by simp [results, Tryz.results25, go_sem, kk0, kk1, kk2, kk3, kk4, kk5]) rfl ⟨_, rfl, kb, kp⟩
end Go.Proofs.YtafmfnpjhhaikaaGreatDoor
namespace Go.Proofs.YtafmfnpjhhaikaaGreatDoor
open Go
variable {P : Program} {ops : Array Oper} {md : Region.Mode} {w0 : World}
def holed (n k h : Nat) : Array Bool := (Array.range n).map fun i => decide (i < k) && i != h
/-- How the region must be made: nothing is written twice, each reads what it waits for, the last ones wait for all. -/
def flowHB (md : Region.Mode) (ops : Array Oper) (nq hole : Nat) (D : List (List Nat)) : Bool :=
  Region.noSelect ops && decide (nq ≤ ops.size) && (D.length == nq) &&
  ((List.range nq).all fun i => opAt ops i fun o => (o.after.all fun e => !Region.binds md e || decide (e.on < i)) &&
    ((D.getD i []).all fun k => decide (k < i) && reachF md ops k 8 o) &&
    (List.range nq).all fun k => opAt ops k fun o' => (match o'.dst with
      | none => true
      | some t => (k == i || o.dst != some t) && (!(o.looksAt ops).contains t || (D.getD i []).contains k))) &&
  ((List.range ops.size).all fun m => decide (m < nq) || opAt ops m fun o => (List.range nq).all fun i => i == hole || reachF md ops i 8 o) &&
  tailB md ops (ops.size - nq) nq && decide (hole < nq) && Region.free md ops (holed ops.size nq hole) hole
structure FormH (md : Region.Mode) (ops : Array Oper) (nq hole : Nat) (D : List (List Nat)) : Prop where
  sel : Region.noSelect ops = true
  le : nq ≤ ops.size
  len : D.length = nq
  op : ∀ i, i < nq → ∃ o, ops[i]? = some o
  back : ∀ i o, i < nq → ops[i]? = some o → ∀ e ∈ o.after, Region.binds md e = true → e.on < i
  dep : ∀ i o, i < nq → ops[i]? = some o → ∀ k ∈ D.getD i [], k < i ∧ reachF md ops k 8 o = true
  once : ∀ i o k o', i < nq → ops[i]? = some o → k < nq → ops[k]? = some o' → k ≠ i → ∀ t, o'.dst = some t → o.dst ≠ some t
  reads : ∀ i o k o', i < nq → ops[i]? = some o → k < nq → ops[k]? = some o' → ∀ t, o'.dst = some t → t ∈ o.looksAt ops → k ∈ D.getD i []
  tail : ∀ m o i, nq ≤ m → ops[m]? = some o → i < nq → i ≠ hole → reachF md ops i 8 o = true
  hlt : hole < nq
  free : Region.free md ops (holed ops.size nq hole) hole = true
  line : tailB md ops (ops.size - nq) nq = true
theorem gives_new {o : Oper} {a : Act} {w w' : World} {Φ : Value → World → Prop} {c : Value} (h : (execOp a.eval o).run P w = .ok (.value c) w') (hb : Bel w w') (hc : Φ c w') : gives P o a w Φ := by
  unfold gives
  rw [h]
  exact ⟨hb, hc⟩
end Go.Proofs.YtafmfnpjhhaikaaGreatDoor
namespace Go.Proofs.YtafmfnpjhhaikaaGreatDoor
open Go.RowKit Go.Shelf
def farR (x1 y1 x2 y2 : Rat) : Rat := (x1 - x2) * (x1 - x2) + (y1 - y2) * (y1 - y2)
theorem Sz.far {i j : Nat} {x1 y1 x2 y2 : Rat} (hx1 : Sz i x1) (hy1 : Sz i y1) (hx2 : Sz j x2) (hy2 : Sz j y2) : Sz (4 * (i + j + 1) + 1) (farR x1 y1 x2 y2) := by
  have s1 := hx1.sub hx2
  have s2 := hy1.sub hy2
  exact ((s1.mul s1).add (s2.mul s2)).mono (by omega)
theorem cmpR_eq {x y : Rat} : cmpR x y = 0 ↔ x = y := by
  unfold cmpR
  by_cases h : x < y
  · rw [if_pos h]
    exact ⟨fun h' => by omega, fun h' => absurd h (by rw [h']; exact Rat.lt_irrefl)⟩
  · rw [if_neg h]
    by_cases h2 : x = y
    · rw [if_pos h2]; exact ⟨fun _ => h2, fun _ => rfl⟩
    · rw [if_neg h2]; exact ⟨fun h' => by omega, fun h' => absurd h' h2⟩
/-- How far along the segment the foot of a point lies. -/
def tSeg (px py ax ay bx cy : Rat) : Rat := ((px - ax) * (bx - ax) + (py - ay) * (cy - ay)) / ((bx - ax) * (bx - ax) + (cy - ay) * (cy - ay))
/-- The square of how far a point is from a segment. -/
def segR (px py ax ay bx cy : Rat) : Rat :=
  if cmpR (tSeg px py ax ay bx cy) 0 < 0 then farR px py ax ay else if 0 < cmpR (tSeg px py ax ay bx cy) 1 then farR px py bx cy else
    farR px py (ax + (bx - ax) * tSeg px py ax ay bx cy) (ay + (cy - ay) * tSeg px py ax ay bx cy)
set_option maxHeartbeats 4000000 in
set_option maxRecDepth 100000 in
theorem mk_rdiv0 {w : World} {a b : Value} {x y : Rat} {i j : Nat} (ha : RS i w a x) (hb : RS j w b y) (hl : i + j < LimK) (h0 : y = 0) : Calls Tryz.prog 87 #[a, b] w (Makes w fun v _ => v = .tuple #[ratZero, .int .i64 12]) := by
  unfold ratZero
  have hx := ha.2
  have hy := hb.2
  have fx := hx.fit (by omega)
  have fy := hy.fit (by omega)
  have HGA := Lib.hid (fun X (hX : Bel w X) => mk_rgood (ha.1.bel hX))
  have HGB := Lib.hid (fun X (hX : Bel w X) => mk_rgood (hb.1.bel hX))
  have e1 : (x.num * (y.den : Int)).natAbs < B64 ^ (i + j) := natAbs_mul_lt hx.1 hy.2
  have e2 : (y.num * (x.den : Int)).natAbs < B64 ^ (i + j) := by rw [Nat.add_comm]; exact natAbs_mul_lt hy.1 hx.2
  have lk : i + j + 1 < 400000000 := by unfold LimK at hl; omega
  have HM1 : Hid (∀ X u v, ZC X u x.num → ZC X v (y.den : Int) → _) := fun X u v hu hv => mk_zmul (w := X) (hu.zi fx.1) (hv.zi (by rw [Int.natAbs_natCast]; exact fy.2)) (fit_of e1 (by omega))
  have HM2 : Hid (∀ X u v, ZC X u y.num → ZC X v (x.den : Int) → _) := fun X u v hu hv => mk_zmul (w := X) (hu.zi fy.1) (hv.zi (by rw [Int.natAbs_natCast]; exact fx.2)) (fit_of e2 (by omega))
  have hn0 : y.num * (x.den : Int) = 0 := by rw [h0]; simp
  have HC : Hid (∀ X u v, ZC X u (x.num * (y.den : Int)) → ZC X v (y.num * (x.den : Int)) → _) := fun X u v hu hv => mk_make0 (w := X) (hu.zi (fit_of e1 (by omega))) (by have := hv.zi (fit_of e2 (by omega)); rwa [hn0] at this)
  obtain ⟨Z1, hZ1⟩ : ∃ Z, x.num * (y.den : Int) = Z := ⟨_, rfl⟩
  obtain ⟨Z2, hZ2⟩ : ∃ Z, y.num * (x.den : Int) = Z := ⟨_, rfl⟩
  rw [hZ1] at HM1 HC
  rw [hZ2] at HM2 HC
  obtain ⟨s1, p1, k1, c1, p2, k2, c2, m1, m2, rfl, -⟩ := ha.1.slice
  obtain ⟨s2, p3, k3, c3, p4, k4, c4, m3, m4, rfl, -⟩ := hb.1.slice
  clear ha hb hx hy hl fx fy e1 e2 lk hZ1 hZ2 hn0 h0
  go_enter Tryz.func87, Tryz.ntmps87
  go_upto_region 1 with fail
  obtain ⟨hX2, hX3, hX4, hbw⟩ := boxes3 w (.cells #[.bool s1, .slice p1 k1 c1, .slice p2 k2 c2] 26) (.cells #[.bool s2, .slice p3 k3 c3, .slice p4 k4 c4] 26) (.cells #[.bool false, .slice none 0 0, .slice none 0 0] 26)
  obtain ⟨W, hW⟩ : ∃ W, ((w.alloc (.cells #[.bool s1, .slice p1 k1 c1, .slice p2 k2 c2] 26)).alloc (.cells #[.bool s2, .slice p3 k3 c3, .slice p4 k4 c4] 26)).alloc (.cells #[.bool false, .slice none 0 0, .slice none 0 0] 26) = W := ⟨_, rfl⟩
  rw [hW] at hX2 hX3 hX4 hbw ⊢
  obtain ⟨X2, eX2⟩ : ∃ X, w.heap.size = X := ⟨_, rfl⟩
  obtain ⟨X3, eX3⟩ : ∃ X, X2 + 1 = X := ⟨_, rfl⟩
  obtain ⟨X4, eX4⟩ : ∃ X, X3 + 1 = X := ⟨_, rfl⟩
  rw [eX2, eX3, eX4]
  rw [eX2] at hX2 hX3 hX4
  rw [eX3] at hX3 hX4
  rw [eX4] at hX4
  have HX2 := Lib.hid hX2
  have HX3 := Lib.hid hX3
  have HX4 := Lib.hid hX4
  have HBW := Lib.hid hbw
  have HGEX2 : Hid (w.heap.size ≤ X2) := by unfold Hid; omega
  have HGEX3 : Hid (w.heap.size ≤ X3) := by unfold Hid; omega
  have HGEX4 : Hid (w.heap.size ≤ X4) := by unfold Hid; omega
  have HLT : Hid (X2 < X3 ∧ X3 < X4) := by unfold Hid; omega
  clear hW hbw hX2 hX3 hX4 eX2 eX3 eX4
  refine region_flow 4 [[], [0], [], [2]] [.is (.agg #[.bool s1, .slice p1 k1 c1, .slice p2 k2 c2]), .has (fun v w => RC w v x), .is (.agg #[.bool s2, .slice p3 k3 c3, .slice p4 k4 c4]), .has (fun v w => RC w v y)] (by kernel_rfl) (by kernel_rfl) rfl (by simp only [Steady]; exact ⟨fun _ _ _ h hb => h.bel hb, fun _ _ _ h hb => h.bel hb, trivial⟩) ?_
  simp only [List.take_succ_cons, List.take_zero, List.drop_succ_cons, List.drop_zero]
  refine fV (by rfl) (by intro w1 hw1 hk1; obtain ⟨c0, c1, c2⟩ := boxc3 (hw1.heap HX2.out); go_simp) ?_
  simp only [Act.put, sA, sB, sC]
  refine fH (by rfl) (by intro w1 hw1 hk1; exact HGA.out _ (HBW.out.trans hw1)) (by intro; go_simp) (fun v1 => ?_)
  simp only [Act.put, sA, sB, sC]
  refine fV (by rfl) (by intro w1 hw1 hk1; obtain ⟨c0, c1, c2⟩ := boxc3 (hw1.heap HX3.out); go_simp) ?_
  simp only [Act.put, sA, sB, sC]
  refine fH (by rfl) (by intro w1 hw1 hk1; exact HGB.out _ (HBW.out.trans hw1)) (by intro; go_simp) (fun v3 => ?_)
  simp only [Act.put, sA, sB, sC]
  intro w1 hw1 hk1
  obtain ⟨g3, g1, -⟩ := hk1
  obtain ⟨q1, j1, d1, q2, j2, d2, rfl, -⟩ := g1.slice
  obtain ⟨q3, j3, d3, q4, j4, d4, rfl, -⟩ := g3.slice
  have hX23 : X2 ≠ X3 := by have := HLT.out; omega
  have y2 := hw1.heap HX2.out
  have y3 := hw1.heap HX3.out
  have a0 : w1.cell? ⟨X2, 0, none⟩ = some (.bool s1) := (heap_cell y2 0).trans rfl
  have a1 : w1.cell? ⟨X2, 1, none⟩ = some (.slice p1 k1 c1) := (heap_cell y2 1).trans rfl
  have a2 : w1.cell? ⟨X2, 2, none⟩ = some (.slice p2 k2 c2) := (heap_cell y2 2).trans rfl
  have a3 : w1.frozen? ⟨X2, 0, none⟩ = false := heap_frozen y2 0
  have a4 : w1.frozen? ⟨X2, 1, none⟩ = false := heap_frozen y2 1
  have a5 : w1.frozen? ⟨X2, 2, none⟩ = false := heap_frozen y2 2
  have b0 : w1.cell? ⟨X3, 0, none⟩ = some (.bool s2) := (heap_cell y3 0).trans rfl
  have b1 : w1.cell? ⟨X3, 1, none⟩ = some (.slice p3 k3 c3) := (heap_cell y3 1).trans rfl
  have b2 : w1.cell? ⟨X3, 2, none⟩ = some (.slice p4 k4 c4) := (heap_cell y3 2).trans rfl
  have b3 : w1.frozen? ⟨X3, 0, none⟩ = false := heap_frozen y3 0
  have b4 : w1.frozen? ⟨X3, 1, none⟩ = false := heap_frozen y3 1
  have b5 : w1.frozen? ⟨X3, 2, none⟩ = false := heap_frozen y3 2
  obtain ⟨sx, hsx⟩ : ∃ s, decide (x.num < 0) = s := ⟨_, rfl⟩
  obtain ⟨sy, hsy⟩ : ∃ s, decide (y.num < 0) = s := ⟨_, rfl⟩
  rw [hsx] at g1 ⊢
  rw [hsy] at g3 ⊢
  have HSX := Lib.hid hsx
  have HSY := Lib.hid hsy
  have ST := Lib.hid (fun W' hW' => rstore_two (s := sx) (t := sy) y2 y3 hX23 (noInt_rat _ _ _ _ _ _ _) (noInt_rat _ _ _ _ _ _ _) g1 g3 (HBW.out.trans hw1) HGEX2.out HGEX3.out (W := W') hW')
  have HW1 := Lib.hid hw1
  clear g1 g3 hw1 hsx hsy y2 y3 HX2 HX3 HGA HGB
  go_upto_region 2 with fail
  obtain ⟨W2, hW2⟩ : ∃ W', (((((w1.setCell ⟨X2, 0, none⟩ (.bool sx)).setCell ⟨X2, 1, none⟩ (.slice q1 j1 d1)).setCell ⟨X2, 2, none⟩ (.slice q2 j2 d2)).setCell ⟨X3, 0, none⟩ (.bool sy)).setCell ⟨X3, 1, none⟩ (.slice q3 j3 d3)).setCell ⟨X3, 2, none⟩ (.slice q4 j4 d4) = W' := ⟨_, rfl⟩
  rw [hW2]
  obtain ⟨h2, h3, hr2, hr3, hbw, hoth⟩ := ST.out W2 hW2.symm
  have HX2 := Lib.hid h2
  have HX3 := Lib.hid h3
  have HR2 := Lib.hid hr2
  have HR3 := Lib.hid hr3
  have HBW2 := Lib.hid hbw
  have HOTH := Lib.hid hoth
  clear a0 a1 a2 a3 a4 a5 b0 b1 b2 b3 b4 b5 h2 h3 hr2 hr3 hbw hoth hW2 ST hX23
  have HX4' := Lib.hid ((HOTH.out X4 (by have := HLT.out; omega) (by have := HLT.out; omega)).trans (HW1.out.heap HX4.out))
  clear HX4
  have HX4 := HX4'
  clear HX4'
  unfold ratZero at HC
  refine region_flow 13 [[], [0], [], [2], [1, 3], [], [5], [], [7], [6, 8], [4, 9], [10], [10]] [.is (.pointer (some ⟨X2, 0, none⟩)), .is (.agg #[.bool sx, .slice q1 j1 d1]), .is (.agg #[.bool sy, .slice q3 j3 d3, .slice q4 j4 d4]), .has (fun v w => ZC w v (y.den : Int)), .has (fun v w => ZC w v Z1), .is (.pointer (some ⟨X3, 0, none⟩)), .is (.agg #[.bool sy, .slice q3 j3 d3]), .is (.agg #[.bool sx, .slice q1 j1 d1, .slice q2 j2 d2]), .has (fun v w => ZC w v (x.den : Int)), .has (fun v w => ZC w v Z2), .is (.tuple #[.agg #[.bool false, .slice none 0 0, .slice none 0 0], .int .i64 12]), .is (.agg #[.bool false, .slice none 0 0, .slice none 0 0]), .is (.int .i64 12)] (by kernel_rfl) (by kernel_rfl) rfl (by simp only [Steady]; exact ⟨fun _ _ _ h hb => h.bel hb, fun _ _ _ h hb => h.bel hb, fun _ _ _ h hb => h.bel hb, fun _ _ _ h hb => h.bel hb, trivial⟩) ?_
  simp only [List.take_succ_cons, List.take_zero, List.drop_succ_cons, List.drop_zero]
  refine fV (by rfl) (by intro w1 hw1 hk1; go_simp) ?_
  simp only [Act.put, sA, sB, sC]
  refine fV (by rfl) (by intro w1 hw1 hk1; obtain ⟨c0, c1, -⟩ := boxc3 (hw1.heap HX2.out); go_simp) ?_
  simp only [Act.put, sA, sB, sC]
  refine fV (by rfl) (by intro w1 hw1 hk1; obtain ⟨c0, c1, c2⟩ := boxc3 (hw1.heap HX3.out); go_simp) ?_
  simp only [Act.put, sA, sB, sC]
  refine fH (by rfl) (by intro w1 hw1 hk1; exact mk_over (HR3.out.bel hw1)) (by intro; go_simp) (fun v3 => ?_)
  simp only [Act.put, sA, sB, sC]
  refine fH (by rfl) (by intro w1 hw1 hk1; obtain ⟨g3, -⟩ := hk1; exact HM1.out _ _ _ (num_of (HR2.out.bel hw1)) g3) (by intro; go_simp) (fun v4 => ?_)
  simp only [Act.put, sA, sB, sC]
  refine fV (by rfl) (by intro w1 hw1 hk1; go_simp) ?_
  simp only [Act.put, sA, sB, sC]
  refine fV (by rfl) (by intro w1 hw1 hk1; obtain ⟨c0, c1, -⟩ := boxc3 (hw1.heap HX3.out); go_simp) ?_
  simp only [Act.put, sA, sB, sC]
  refine fV (by rfl) (by intro w1 hw1 hk1; obtain ⟨c0, c1, c2⟩ := boxc3 (hw1.heap HX2.out); go_simp) ?_
  simp only [Act.put, sA, sB, sC]
  refine fH (by rfl) (by intro w1 hw1 hk1; exact mk_over (HR2.out.bel hw1)) (by intro; go_simp) (fun v8 => ?_)
  simp only [Act.put, sA, sB, sC]
  refine fH (by rfl) (by intro w1 hw1 hk1; obtain ⟨g8, -, -, -⟩ := hk1; exact HM2.out _ _ _ (num_of (HR3.out.bel hw1)) g8) (by intro; go_simp) (fun v9 => ?_)
  simp only [Act.put, sA, sB, sC]
  refine fC (by rfl) (by intro w1 hw1 hk1; obtain ⟨g9, -, g4, -, -⟩ := hk1; exact HC.out _ _ _ g4 g9) (by intro; go_simp) ?_
  simp only [Act.put, sA, sB, sC]
  refine fV (by rfl) (by intro w1 hw1 hk1; go_simp) ?_
  simp only [Act.put, sA, sB, sC]
  refine fV (by rfl) (by intro w1 hw1 hk1; go_simp) ?_
  simp only [Act.put, sA, sB, sC]
  intro w1 hw1 hk1
  obtain ⟨g9, g8, g4, g3, -⟩ := hk1
  have HB3 := Lib.hid hw1
  have hhX4 := (hw1).heap HX4.out
  have HHX4 := Lib.hid hhX4
  have dX40 : w1.cell? ⟨X4, 0, none⟩ = some (.bool false) := (heap_cell hhX4 0).trans rfl
  have fX40 : w1.frozen? ⟨X4, 0, none⟩ = false := heap_frozen hhX4 0
  have dX41 : w1.cell? ⟨X4, 1, none⟩ = some (.slice none 0 0) := (heap_cell hhX4 1).trans rfl
  have fX41 : w1.frozen? ⟨X4, 1, none⟩ = false := heap_frozen hhX4 1
  have dX42 : w1.cell? ⟨X4, 2, none⟩ = some (.slice none 0 0) := (heap_cell hhX4 2).trans rfl
  have fX42 : w1.frozen? ⟨X4, 2, none⟩ = false := heap_frozen hhX4 2
  clear hhX4
  clear hw1 g9 g8 g4 g3
  go_wp2
  obtain ⟨kb, kp, kh⟩ := finAll (vs := [.bool false, .slice none 0 0, .slice none 0 0]) (HBW2.out.trans HB3.out) HHX4.out rfl HGEX4.out (Φ := fun W2 => True) (fun W2 ho => trivial)
  have kk0 : (setAll w1 X4 0 [.bool false, .slice none 0 0, .slice none 0 0]).cell? ⟨X4, 0, none⟩ = some (.bool false) := (heap_cell kh 0).trans rfl
  have kk1 : (setAll w1 X4 0 [.bool false, .slice none 0 0, .slice none 0 0]).cell? ⟨X4, 1, none⟩ = some (.slice none 0 0) := (heap_cell kh 1).trans rfl
  have kk2 : (setAll w1 X4 0 [.bool false, .slice none 0 0, .slice none 0 0]).cell? ⟨X4, 2, none⟩ = some (.slice none 0 0) := (heap_cell kh 2).trans rfl
  simp only [setAll] at kb kp kk0 kk1 kk2
  exact bodyPost_ret (v := .tuple #[.agg #[.bool false, .slice none 0 0, .slice none 0 0], .int .i64 12]) (by simp [results, Tryz.results87, go_sem, kk0, kk1, kk2]) rfl ⟨_, rfl, kb, rfl⟩
end Go.Proofs.YtafmfnpjhhaikaaGreatDoor
