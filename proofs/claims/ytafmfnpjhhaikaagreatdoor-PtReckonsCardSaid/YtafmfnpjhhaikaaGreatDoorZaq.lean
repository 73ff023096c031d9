/-
  gessoref02: whole numbers of the reference; made, Of, Out.
-/
import Derived.Test.YtafmfnpjhhaikaaGreatDoorZap
namespace Go.Proofs.YtafmfnpjhhaikaaGreatDoor
open Go.RowKit Go.Shelf
/-- A whole number of the reference. -/
def RZ (w : World) (v : Value) (x : Int) : Prop := ∃ u, v = .agg #[.bool (decide (x < 0)), u] ∧ NR w u x.natAbs
theorem RZ.bel {w w' : World} {v : Value} {x : Int} (h : RZ w v x) (hb : Bel w w') : RZ w' v x := by
  obtain ⟨u, h1, h2⟩ := h
  exact ⟨u, h1, h2.bel hb⟩
theorem RZ.only {b t : Nat} {w w' : World} {v : Value} {cs : Array Value} {fr : Nat × Nat} {x : Int} (h : RZ w v x) (ho : OnlyG b w w') (hb : w.heap[b]? = some (.cells cs t fr)) (hn : NoInt .u32 cs) : RZ w' v x := by
  obtain ⟨u, h1, h2⟩ := h
  exact ⟨u, h1, h2.only ho hb hn⟩
theorem RZ.slice {w : World} {v : Value} {x : Int} (h : RZ w v x) : ∃ p k c, v = .agg #[.bool (decide (x < 0)), .slice p k c] ∧ NR w (.slice p k c) x.natAbs := by
  obtain ⟨u, rfl, hu⟩ := h
  obtain ⟨p, c, k, rfl, _⟩ := hu.slice
  exact ⟨p, k, c, rfl, hu⟩
theorem noInt_int32 (s : Bool) (p : Option Addr) (n c : Nat) : NoInt .u32 #[.bool s, .slice p n c] := by
  intro v hv x
  simp at hv
  rcases hv with rfl | rfl <;> simp
set_option maxHeartbeats 1000000 in
set_option maxRecDepth 100000 in
theorem mk_r2made {w : World} {a : Value} {n : Nat} (s : Bool) (ha : NR w a n) : Calls Tryz.prog 121 #[.bool s, a] w (Makes w fun v w' => RZ w' v (sgnI s n)) := by
  have HA := Lib.hid ha
  obtain ⟨p, c, k, rfl, hk⟩ := ha.slice
  have HN := Lib.hid (sgn_abs s n)
  obtain ⟨x, hx⟩ : ∃ x, sgnI s n = x := ⟨_, rfl⟩
  rw [hx] at HN ⊢
  cases s with
  | false =>
    have HD : Hid (decide (x < 0) = false) := by rw [← hx]; simp [sgnI, Hid]
    clear ha hk hx
    go_enter Tryz.func121, Tryz.ntmps121
    go_upto_region 1 with fail
    obtain ⟨hXR, hbw⟩ := boxes1 w (.cells #[.bool false, .slice none 0 0] 35)
    obtain ⟨W, hW⟩ : ∃ W, w.alloc (.cells #[.bool false, .slice none 0 0] 35) = W := ⟨_, rfl⟩
    rw [hW] at hXR hbw ⊢
    obtain ⟨XR, eXR⟩ : ∃ X, w.heap.size = X := ⟨_, rfl⟩
    rw [eXR]
    rw [eXR] at hXR
    have HXR := Lib.hid hXR
    have HBW := Lib.hid hbw
    have HGEXR : Hid (w.heap.size ≤ XR) := by unfold Hid; omega
    clear hW hbw hXR eXR
    have HBB : Hid (Bel W W) := Lib.hid (Bel.refl W)
    have hhXR := (HBB.out).heap HXR.out
    have HHXR := Lib.hid hhXR
    have dXR0 : W.cell? ⟨XR, 0, none⟩ = some (.bool false) := (heap_cell hhXR 0).trans rfl
    have fXR0 : W.frozen? ⟨XR, 0, none⟩ = false := heap_frozen hhXR 0
    have dXR1 : W.cell? ⟨XR, 1, none⟩ = some (.slice none 0 0) := (heap_cell hhXR 1).trans rfl
    have fXR1 : W.frozen? ⟨XR, 1, none⟩ = false := heap_frozen hhXR 1
    clear hhXR
    go_wp2
    obtain ⟨kb, kp, kh⟩ := finAll (vs := [.bool false, .slice p k c]) (HBW.out) HHXR.out rfl HGEXR.out (Φ := fun W2 => RZ W2 (.agg #[.bool false, .slice p k c]) x) (fun W2 ho => ⟨_, by rw [HD.out], by rw [HN.out]; exact (HA.out.bel HBW.out).only ho HHXR.out (noInt_int32 _ _ _ _)⟩)
    have kk0 : (setAll W XR 0 [.bool false, .slice p k c]).cell? ⟨XR, 0, none⟩ = some (.bool false) := (heap_cell kh 0).trans rfl
    have kk1 : (setAll W XR 0 [.bool false, .slice p k c]).cell? ⟨XR, 1, none⟩ = some (.slice p k c) := (heap_cell kh 1).trans rfl
    simp only [setAll] at kb kp kk0 kk1
    exact bodyPost_ret (v := .agg #[.bool false, .slice p k c]) (by simp [results, Tryz.results121, go_sem, kk0, kk1]) rfl ⟨_, rfl, kb, kp⟩
  | true =>
    by_cases h0 : n = 0
    · have HD : Hid (decide (x < 0) = false) := by rw [← hx]; simp [sgnI, Hid, h0]
      have hk0 : k = 0 := hk.2 h0
      subst hk0
      clear ha hk hx
      go_enter Tryz.func121, Tryz.ntmps121
      go_upto_region 1 with fail
      obtain ⟨hXR, hbw⟩ := boxes1 w (.cells #[.bool false, .slice none 0 0] 35)
      obtain ⟨W, hW⟩ : ∃ W, w.alloc (.cells #[.bool false, .slice none 0 0] 35) = W := ⟨_, rfl⟩
      rw [hW] at hXR hbw ⊢
      obtain ⟨XR, eXR⟩ : ∃ X, w.heap.size = X := ⟨_, rfl⟩
      rw [eXR]
      rw [eXR] at hXR
      have HXR := Lib.hid hXR
      have HBW := Lib.hid hbw
      have HGEXR : Hid (w.heap.size ≤ XR) := by unfold Hid; omega
      clear hW hbw hXR eXR
      have HBB : Hid (Bel W W) := Lib.hid (Bel.refl W)
      have hhXR := (HBB.out).heap HXR.out
      have HHXR := Lib.hid hhXR
      have dXR0 : W.cell? ⟨XR, 0, none⟩ = some (.bool false) := (heap_cell hhXR 0).trans rfl
      have fXR0 : W.frozen? ⟨XR, 0, none⟩ = false := heap_frozen hhXR 0
      have dXR1 : W.cell? ⟨XR, 1, none⟩ = some (.slice none 0 0) := (heap_cell hhXR 1).trans rfl
      have fXR1 : W.frozen? ⟨XR, 1, none⟩ = false := heap_frozen hhXR 1
      clear hhXR
      go_wp2
      obtain ⟨kb, kp, kh⟩ := finAll (vs := [.bool false, .slice p 0 c]) (HBW.out) HHXR.out rfl HGEXR.out (Φ := fun W2 => RZ W2 (.agg #[.bool false, .slice p 0 c]) x) (fun W2 ho => ⟨_, by rw [HD.out], by rw [HN.out]; exact (HA.out.bel HBW.out).only ho HHXR.out (noInt_int32 _ _ _ _)⟩)
      have kk0 : (setAll W XR 0 [.bool false, .slice p 0 c]).cell? ⟨XR, 0, none⟩ = some (.bool false) := (heap_cell kh 0).trans rfl
      have kk1 : (setAll W XR 0 [.bool false, .slice p 0 c]).cell? ⟨XR, 1, none⟩ = some (.slice p 0 c) := (heap_cell kh 1).trans rfl
      simp only [setAll] at kb kp kk0 kk1
      exact bodyPost_ret (v := .agg #[.bool false, .slice p 0 c]) (by simp [results, Tryz.results121, go_sem, kk0, kk1]) rfl ⟨_, rfl, kb, kp⟩
    · have HD : Hid (decide (x < 0) = true) := by rw [← hx]; unfold Hid; exact decide_eq_true (by simp [sgnI]; omega)
      have hk0 : 0 < k := Nat.pos_of_ne_zero fun h => h0 (hk.1 h)
      clear ha hk hx
      go_enter Tryz.func121, Tryz.ntmps121
      go_upto_region 1 with fail
      obtain ⟨hXR, hbw⟩ := boxes1 w (.cells #[.bool false, .slice none 0 0] 35)
      obtain ⟨W, hW⟩ : ∃ W, w.alloc (.cells #[.bool false, .slice none 0 0] 35) = W := ⟨_, rfl⟩
      rw [hW] at hXR hbw ⊢
      obtain ⟨XR, eXR⟩ : ∃ X, w.heap.size = X := ⟨_, rfl⟩
      rw [eXR]
      rw [eXR] at hXR
      have HXR := Lib.hid hXR
      have HBW := Lib.hid hbw
      have HGEXR : Hid (w.heap.size ≤ XR) := by unfold Hid; omega
      clear hW hbw hXR eXR
      have HBB : Hid (Bel W W) := Lib.hid (Bel.refl W)
      have hhXR := (HBB.out).heap HXR.out
      have HHXR := Lib.hid hhXR
      have dXR0 : W.cell? ⟨XR, 0, none⟩ = some (.bool false) := (heap_cell hhXR 0).trans rfl
      have fXR0 : W.frozen? ⟨XR, 0, none⟩ = false := heap_frozen hhXR 0
      have dXR1 : W.cell? ⟨XR, 1, none⟩ = some (.slice none 0 0) := (heap_cell hhXR 1).trans rfl
      have fXR1 : W.frozen? ⟨XR, 1, none⟩ = false := heap_frozen hhXR 1
      clear hhXR
      go_wp2
      obtain ⟨kb, kp, kh⟩ := finAll (vs := [.bool true, .slice p k c]) (HBW.out) HHXR.out rfl HGEXR.out (Φ := fun W2 => RZ W2 (.agg #[.bool true, .slice p k c]) x) (fun W2 ho => ⟨_, by rw [HD.out], by rw [HN.out]; exact (HA.out.bel HBW.out).only ho HHXR.out (noInt_int32 _ _ _ _)⟩)
      have kk0 : (setAll W XR 0 [.bool true, .slice p k c]).cell? ⟨XR, 0, none⟩ = some (.bool true) := (heap_cell kh 0).trans rfl
      have kk1 : (setAll W XR 0 [.bool true, .slice p k c]).cell? ⟨XR, 1, none⟩ = some (.slice p k c) := (heap_cell kh 1).trans rfl
      simp only [setAll] at kb kp kk0 kk1
      exact bodyPost_ret (v := .agg #[.bool true, .slice p k c]) (by simp [results, Tryz.results121, go_sem, kk0, kk1]) rfl ⟨_, rfl, kb, kp⟩
set_option maxHeartbeats 1000000 in
set_option maxRecDepth 100000 in
theorem mk_r2of (v : Int) (h1 : -9223372036854775808 ≤ v) (h2 : v < 9223372036854775808) (w : World) : Calls Tryz.prog 148 #[.int .i64 v] w (Makes w fun u w' => RZ w' u v) := by
  by_cases hv : v < 0
  · obtain ⟨m, hm⟩ : ∃ m : Nat, v = -((m : Int) + 1) := ⟨(-v - 1).toNat, by omega⟩
    have hm3 : m < 9223372036854775808 := by omega
    have HO := Lib.hid (fun X => mk_r1of (m + 1) (by unfold B64; omega) X)
    have HM : Hid (∀ X u, NR X u (m + 1) → _) := fun X u hu => mk_r2made (w := X) true hu
    rw [show sgnI true (m + 1) = v by rw [hm]; simp [sgnI]] at HM
    have e1 : ((m + 1 : Nat) : Int) = (m : Int) + 1 := by omega
    rw [e1] at HO
    have e2 : IntKind.i64.wrap (v + 1) = -(m : Int) := by rw [hm]; rw [IntWalk.i64_in _ (by omega)]; omega
    have HV := Lib.hid hm
    clear hm e1
    go_enter Tryz.func148, Tryz.ntmps148
    go_upto_region 1 with fail
    obtain ⟨hX2, hbw⟩ := boxes1 w (.cells #[.bool false, .slice none 0 0] 35)
    obtain ⟨W, hW⟩ : ∃ W, w.alloc (.cells #[.bool false, .slice none 0 0] 35) = W := ⟨_, rfl⟩
    rw [hW] at hX2 hbw ⊢
    obtain ⟨X2, eX2⟩ : ∃ X, w.heap.size = X := ⟨_, rfl⟩
    rw [eX2]
    rw [eX2] at hX2
    have HX2 := Lib.hid hX2
    have HBW := Lib.hid hbw
    have HGEX2 : Hid (w.heap.size ≤ X2) := by unfold Hid; omega
    clear hW hbw hX2 eX2
    go_wp2_with (first
      | (go_at_call 74; (with_reducible refine (HO.out _).mono ?_); rintro e w3 ⟨u3, rfl, hb3, hu3⟩; have HB3 := Lib.hid hb3; have HU3 := Lib.hid hu3; clear hb3 hu3)
      | (go_at_call 121; (with_reducible refine (HM.out _ _ HU3.out).mono ?_); rintro e w4 ⟨u4, rfl, hb4, hu4⟩; obtain ⟨q, kq, cq, rfl, -⟩ := hu4.slice; have HB4 := Lib.hid (HB3.out.trans hb4); rw [decide_eq_true hv] at hu4; have HU4 := Lib.hid hu4; clear hb4 hu4; have hhX2 := (HB4.out).heap HX2.out; have HHX2 := Lib.hid hhX2; have dX20 : w4.cell? ⟨X2, 0, none⟩ = some (.bool false) := (heap_cell hhX2 0).trans rfl; have fX20 : w4.frozen? ⟨X2, 0, none⟩ = false := heap_frozen hhX2 0; have dX21 : w4.cell? ⟨X2, 1, none⟩ = some (.slice none 0 0) := (heap_cell hhX2 1).trans rfl; have fX21 : w4.frozen? ⟨X2, 1, none⟩ = false := heap_frozen hhX2 1; clear hhX2))
    obtain ⟨kb, kp, kh⟩ := finAll (vs := [.bool true, .slice q kq cq]) (HBW.out.trans HB4.out) HHX2.out rfl HGEX2.out (Φ := fun W2 => RZ W2 (.agg #[.bool true, .slice q kq cq]) v) (fun W2 ho => HU4.out.only ho HHX2.out (noInt_int32 _ _ _ _))
    have kk0 : (setAll w4 X2 0 [.bool true, .slice q kq cq]).cell? ⟨X2, 0, none⟩ = some (.bool true) := (heap_cell kh 0).trans rfl
    have kk1 : (setAll w4 X2 0 [.bool true, .slice q kq cq]).cell? ⟨X2, 1, none⟩ = some (.slice q kq cq) := (heap_cell kh 1).trans rfl
    simp only [setAll] at kb kp kk0 kk1
    exact bodyPost_ret (v := .agg #[.bool true, .slice q kq cq]) (by simp [results, Tryz.results148, go_sem, kk0, kk1]) rfl ⟨_, rfl, kb, kp⟩
  · obtain ⟨m, rfl⟩ : ∃ m : Nat, v = (m : Int) := ⟨v.toNat, by omega⟩
    have hm3 : m < 9223372036854775808 := by omega
    have HO := Lib.hid (fun X => mk_r1of m (by unfold B64; omega) X)
    have HM : Hid (∀ X u, NR X u m → _) := fun X u hu => mk_r2made (w := X) false hu
    rw [show sgnI false m = (m : Int) from rfl] at HM
    go_enter Tryz.func148, Tryz.ntmps148
    go_upto_region 1 with fail
    obtain ⟨hX2, hbw⟩ := boxes1 w (.cells #[.bool false, .slice none 0 0] 35)
    obtain ⟨W, hW⟩ : ∃ W, w.alloc (.cells #[.bool false, .slice none 0 0] 35) = W := ⟨_, rfl⟩
    rw [hW] at hX2 hbw ⊢
    obtain ⟨X2, eX2⟩ : ∃ X, w.heap.size = X := ⟨_, rfl⟩
    rw [eX2]
    rw [eX2] at hX2
    have HX2 := Lib.hid hX2
    have HBW := Lib.hid hbw
    have HGEX2 : Hid (w.heap.size ≤ X2) := by unfold Hid; omega
    clear hW hbw hX2 eX2
    go_wp2_with (first
      | (go_at_call 74; (with_reducible refine (HO.out _).mono ?_); rintro e w3 ⟨u3, rfl, hb3, hu3⟩; have HB3 := Lib.hid hb3; have HU3 := Lib.hid hu3; clear hb3 hu3)
      | (go_at_call 121; (with_reducible refine (HM.out _ _ HU3.out).mono ?_); rintro e w4 ⟨u4, rfl, hb4, hu4⟩; obtain ⟨q, kq, cq, rfl, -⟩ := hu4.slice; have HB4 := Lib.hid (HB3.out.trans hb4); have HU4 := Lib.hid hu4; clear hb4 hu4; have hhX2 := (HB4.out).heap HX2.out; have HHX2 := Lib.hid hhX2; have dX20 : w4.cell? ⟨X2, 0, none⟩ = some (.bool false) := (heap_cell hhX2 0).trans rfl; have fX20 : w4.frozen? ⟨X2, 0, none⟩ = false := heap_frozen hhX2 0; have dX21 : w4.cell? ⟨X2, 1, none⟩ = some (.slice none 0 0) := (heap_cell hhX2 1).trans rfl; have fX21 : w4.frozen? ⟨X2, 1, none⟩ = false := heap_frozen hhX2 1; clear hhX2))
    obtain ⟨kb, kp, kh⟩ := finAll (vs := [.bool (decide ((m : Int) < 0)), .slice q kq cq]) (HBW.out.trans HB4.out) HHX2.out rfl HGEX2.out (Φ := fun W2 => RZ W2 (.agg #[.bool (decide ((m : Int) < 0)), .slice q kq cq]) (m : Int)) (fun W2 ho => HU4.out.only ho HHX2.out (noInt_int32 _ _ _ _))
    have kk0 : (setAll w4 X2 0 [.bool (decide ((m : Int) < 0)), .slice q kq cq]).cell? ⟨X2, 0, none⟩ = some (.bool (decide ((m : Int) < 0))) := (heap_cell kh 0).trans rfl
    have kk1 : (setAll w4 X2 0 [.bool (decide ((m : Int) < 0)), .slice q kq cq]).cell? ⟨X2, 1, none⟩ = some (.slice q kq cq) := (heap_cell kh 1).trans rfl
    simp only [setAll] at kb kp kk0 kk1
    exact bodyPost_ret (v := .agg #[.bool (decide ((m : Int) < 0)), .slice q kq cq]) (by simp [results, Tryz.results148, go_sem, kk0, kk1]) rfl ⟨_, rfl, kb, kp⟩
set_option maxHeartbeats 1000000 in
set_option maxRecDepth 100000 in
theorem mk_r2out {w : World} {a : Value} {x : Int} (ha : RZ w a x) (hf : (limB B32 x.natAbs).length < 1000000000) : Calls Tryz.prog 127 #[a] w (Makes w fun v w' => ZC w' v x) := by
  obtain ⟨p, k, c, rfl, hu⟩ := ha.slice
  have HO := Lib.hid (fun X (hX : Bel w X) => mk_rout (hu.bel hX) hf)
  obtain ⟨s, hs⟩ : ∃ s, decide (x < 0) = s := ⟨_, rfl⟩
  have HS := Lib.hid hs
  rw [hs]
  clear ha hu hf hs
  go_enter Tryz.func127, Tryz.ntmps127
  go_upto_region 1 with fail
  obtain ⟨hXa, hXR, hbw⟩ := boxes2 w (.cells #[.bool s, .slice p k c] 35) (.cells #[.bool false, .slice none 0 0] 24)
  obtain ⟨W, hW⟩ : ∃ W, (w.alloc (.cells #[.bool s, .slice p k c] 35)).alloc (.cells #[.bool false, .slice none 0 0] 24) = W := ⟨_, rfl⟩
  rw [hW] at hXa hXR hbw ⊢
  obtain ⟨Xa, eXa⟩ : ∃ X, w.heap.size = X := ⟨_, rfl⟩
  obtain ⟨XR, eXR⟩ : ∃ X, Xa + 1 = X := ⟨_, rfl⟩
  rw [eXa, eXR]
  rw [eXa] at hXa hXR
  rw [eXR] at hXR
  have HXa := Lib.hid hXa
  have HXR := Lib.hid hXR
  have HBW := Lib.hid hbw
  have HGEXa : Hid (w.heap.size ≤ Xa) := by unfold Hid; omega
  have HGEXR : Hid (w.heap.size ≤ XR) := by unfold Hid; omega
  have HLT : Hid (Xa < XR) := by unfold Hid; omega
  clear hW hbw hXa hXR eXa eXR
  refine region_flow 6 [[], [0], [], [2], [3], [1, 4]] [.is (.pointer (some ⟨Xa, 0, none⟩)), .is (.bool s), .is (.pointer (some ⟨Xa, 1, none⟩)), .is (.slice p k c), .has (fun v w => NC w v x.natAbs), .has (fun v w => ZC w v x)] (by kernel_rfl) (by kernel_rfl) rfl (by simp only [Steady]; exact ⟨fun _ _ _ h hb => h.bel hb, fun _ _ _ h hb => h.bel hb, trivial⟩) ?_
  simp only [List.take_succ_cons, List.take_zero, List.drop_succ_cons, List.drop_zero]
  refine fV (by rfl) (by intro w1 hw1 hk1; go_simp) ?_
  simp only [Act.put, sA, sB, sC]
  refine fV (by rfl) (by intro w1 hw1 hk1; have c0 : w1.cell? ⟨Xa, 0, none⟩ = some (.bool s) := (heap_cell (hw1.heap HXa.out) 0).trans rfl; go_simp) ?_
  simp only [Act.put, sA, sB, sC]
  refine fV (by rfl) (by intro w1 hw1 hk1; go_simp) ?_
  simp only [Act.put, sA, sB, sC]
  refine fV (by rfl) (by intro w1 hw1 hk1; have c1 : w1.cell? ⟨Xa, 1, none⟩ = some (.slice p k c) := (heap_cell (hw1.heap HXa.out) 1).trans rfl; go_simp) ?_
  simp only [Act.put, sA, sB, sC]
  refine fH (by rfl) (by intro w1 hw1 hk1; exact HO.out _ (HBW.out.trans hw1)) (by intro; go_simp) (fun v4 => ?_)
  simp only [Act.put, sA, sB, sC]
  refine flow_has (by intro w1 hw1 hk1; obtain ⟨g4, -⟩ := hk1; obtain ⟨p1, e1, k1, rfl, -⟩ := g4.slice; refine want (by rfl) (gives_of (c := .agg #[.bool s, .slice p1 k1 e1]) (by go_simp) ?_); exact ⟨_, by rw [HS.out], g4⟩) (fun v5 => ?_)
  simp only [Act.put, sA, sB, sC]
  intro w1 hw1 hk1
  obtain ⟨g5, g4, -⟩ := hk1
  obtain ⟨p5, k5, e5, rfl, -⟩ := g5.slice
  have HV := Lib.hid g5
  have HB3 := Lib.hid hw1
  rw [HS.out] at HV ⊢
  have hhXR := (HB3.out).heap HXR.out
  have HHXR := Lib.hid hhXR
  have dXR0 : w1.cell? ⟨XR, 0, none⟩ = some (.bool false) := (heap_cell hhXR 0).trans rfl
  have fXR0 : w1.frozen? ⟨XR, 0, none⟩ = false := heap_frozen hhXR 0
  have dXR1 : w1.cell? ⟨XR, 1, none⟩ = some (.slice none 0 0) := (heap_cell hhXR 1).trans rfl
  have fXR1 : w1.frozen? ⟨XR, 1, none⟩ = false := heap_frozen hhXR 1
  clear hhXR
  clear hw1 g5 g4
  go_wp2
  obtain ⟨kb, kp, kh⟩ := finAll (vs := [.bool s, .slice p5 k5 e5]) (HBW.out.trans HB3.out) HHXR.out rfl HGEXR.out (Φ := fun W2 => ZC W2 (.agg #[.bool s, .slice p5 k5 e5]) x) (fun W2 ho => HV.out.only ho HHXR.out (noInt_int _ _ _ _))
  have kk0 : (setAll w1 XR 0 [.bool s, .slice p5 k5 e5]).cell? ⟨XR, 0, none⟩ = some (.bool s) := (heap_cell kh 0).trans rfl
  have kk1 : (setAll w1 XR 0 [.bool s, .slice p5 k5 e5]).cell? ⟨XR, 1, none⟩ = some (.slice p5 k5 e5) := (heap_cell kh 1).trans rfl
  simp only [setAll] at kb kp kk0 kk1
  exact bodyPost_ret (v := .agg #[.bool s, .slice p5 k5 e5]) (by simp [results, Tryz.results127, go_sem, kk0, kk1]) rfl ⟨_, rfl, kb, kp⟩
/-- A fraction of the reference. -/
def RQ (w : World) (v : Value) (q : Rat) : Prop := ∃ u d, v = .agg #[.bool (decide (q.num < 0)), u, d] ∧ NR w u q.num.natAbs ∧ NR w d q.den
theorem RQ.bel {w w' : World} {v : Value} {q : Rat} (h : RQ w v q) (hb : Bel w w') : RQ w' v q := by
  obtain ⟨u, d, h1, h2, h3⟩ := h
  exact ⟨u, d, h1, h2.bel hb, h3.bel hb⟩
theorem RQ.only {b t : Nat} {w w' : World} {v : Value} {cs : Array Value} {fr : Nat × Nat} {q : Rat} (h : RQ w v q) (ho : OnlyG b w w') (hb : w.heap[b]? = some (.cells cs t fr)) (hn : NoInt .u32 cs) : RQ w' v q := by
  obtain ⟨u, d, h1, h2, h3⟩ := h
  exact ⟨u, d, h1, h2.only ho hb hn, h3.only ho hb hn⟩
theorem RQ.slice {w : World} {v : Value} {q : Rat} (h : RQ w v q) : ∃ p k c p' k' c', v = .agg #[.bool (decide (q.num < 0)), .slice p k c, .slice p' k' c'] ∧ NR w (.slice p k c) q.num.natAbs ∧ NR w (.slice p' k' c') q.den := by
  obtain ⟨u, d, rfl, hu, hd⟩ := h
  obtain ⟨p, c, k, rfl, _⟩ := hu.slice
  obtain ⟨p', c', k', rfl, _⟩ := hd.slice
  exact ⟨p, k, c, p', k', c', rfl, hu, hd⟩
theorem noInt_rat32 (s : Bool) (p p' : Option Addr) (n c n' c' : Nat) : NoInt .u32 #[.bool s, .slice p n c, .slice p' n' c'] := by
  intro v hv x
  simp at hv
  rcases hv with rfl | rfl | rfl <;> simp
theorem nr_len {w : World} {p : Option Addr} {k c n : Nat} (h : NR w (.slice p k c) n) : k = (limB B32 n).length := by
  obtain ⟨p', c', he, _⟩ := h
  simp only [Value.slice.injEq] at he
  exact he.2.1
theorem len_one {n : Nat} (h : (limB B32 n).length = 1) : 0 < n ∧ n < B32 := by
  have h0 : 0 < n := Nat.pos_of_ne_zero fun e => by rw [e, lim_zero] at h; simp at h
  refine ⟨h0, ?_⟩
  have := val_lt (lim_all b32_two n)
  rw [val_lim b32_two, h, Nat.pow_one] at this
  exact this
theorem mk_one {x : Int} {n : Nat} (h : Nat.gcd x.natAbs n = 1) (h0 : n ≠ 0) : (mkRat x n).num = x ∧ (mkRat x n).den = n := by
  obtain ⟨h1, h2, h3⟩ := mk_parts x (q := n) h0
  rw [h, Nat.div_one] at h1 h2
  refine ⟨?_, h2⟩
  omega
set_option maxHeartbeats 2000000 in
set_option maxRecDepth 100000 in
theorem mk_r3made_gen {w : World} {a b : Value} {x : Int} {n : Nat} (ha : RZ w a x) (hb : NR w b n) (hn0 : n ≠ 0)
    (hG : ∀ X u v, NR X u x.natAbs → NR X v n → Calls Tryz.prog 119 #[u, v] X (Makes X fun v w' => NR w' v (Nat.gcd x.natAbs n)))
    (hD : ∀ X u v m, (m = x.natAbs ∨ m = n) → NR X u m → NR X v (Nat.gcd x.natAbs n) → Calls Tryz.prog 120 #[u, v] X (Makes X fun v w' => ∃ u t, v = .agg #[u, t] ∧ NR w' u (m / Nat.gcd x.natAbs n) ∧ NR w' t (m % Nat.gcd x.natAbs n))) :
    Calls Tryz.prog 75 #[a, b] w (Makes w fun v w' => RQ w' v (mkRat x n)) := by
  have HA := Lib.hid ha
  have HB0 := Lib.hid hb
  have HGC := Lib.hid (fun X (hX : Bel w X) (h : RZ X a x) => hX)
  obtain ⟨p1, k1, c1, rfl, hu⟩ := ha.slice
  obtain ⟨p2, c2, k2, rfl, -⟩ := hb.slice
  have HU := Lib.hid hu
  have HG := Lib.hid (fun X (hX : Bel w X) => hG X _ _ (hu.bel hX) (hb.bel hX))
  have HD1 := Lib.hid (fun X v (hX : Bel w X) hv => hD X _ v _ (.inl rfl) (hu.bel hX) hv)
  have HD2 := Lib.hid (fun X v (hX : Bel w X) hv => hD X _ v _ (.inr rfl) (hb.bel hX) hv)
  have hg0 : Nat.gcd x.natAbs n ≠ 0 := fun h => hn0 (Nat.eq_zero_of_gcd_eq_zero_right h)
  obtain ⟨h1, h2, h3⟩ := mk_parts x (q := n) hn0
  have HONE := Lib.hid (fun h => mk_one (x := x) (n := n) h hn0)
  obtain ⟨g, hg⟩ : ∃ g, Nat.gcd x.natAbs n = g := ⟨_, rfl⟩
  obtain ⟨R, hR⟩ : ∃ R, mkRat x n = R := ⟨_, rfl⟩
  rw [hg] at HG HD1 HD2 hg0 h1 h2 HONE
  rw [hR] at h1 h2 h3 HONE ⊢
  have HP1 := Lib.hid h1
  have HP2 := Lib.hid h2
  have HP3 : Hid (decide (R.num < 0) = decide (x < 0)) := by unfold Hid; simp only [h3]
  obtain ⟨s, hs⟩ : ∃ s, decide (x < 0) = s := ⟨_, rfl⟩
  have HS := Lib.hid hs
  rw [hs]
  clear ha hb hu hG hD h1 h2 h3 hg hR hs HGC HA
  go_enter Tryz.func75, Tryz.ntmps75
  go_upto_region 1 with fail
  obtain ⟨hXa, hXR, hbw⟩ := boxes2 w (.cells #[.bool s, .slice p1 k1 c1] 35) (.cells #[.bool false, .slice none 0 0, .slice none 0 0] 37)
  obtain ⟨W, hW⟩ : ∃ W, (w.alloc (.cells #[.bool s, .slice p1 k1 c1] 35)).alloc (.cells #[.bool false, .slice none 0 0, .slice none 0 0] 37) = W := ⟨_, rfl⟩
  rw [hW] at hXa hXR hbw ⊢
  obtain ⟨Xa, eXa⟩ : ∃ X, w.heap.size = X := ⟨_, rfl⟩
  obtain ⟨XR, eXR⟩ : ∃ X, Xa + 1 = X := ⟨_, rfl⟩
  rw [eXa, eXR]
  rw [eXa] at hXa hXR
  rw [eXR] at hXR
  have HXa := Lib.hid hXa
  have HXR := Lib.hid hXR
  have HBW := Lib.hid hbw
  have HGEXa : Hid (w.heap.size ≤ Xa) := by unfold Hid; omega
  have HGEXR : Hid (w.heap.size ≤ XR) := by unfold Hid; omega
  have HLT : Hid (Xa < XR) := by unfold Hid; omega
  clear hW hbw hXa hXR eXa eXR
  have a1 : W.cell? ⟨Xa, 1, none⟩ = some (.slice p1 k1 c1) := (heap_cell HXa.out 1).trans rfl
  go_upto_region 2 with (go_at_call 119; (with_reducible refine (HG.out _ HBW.out).mono ?_); rintro e w2 ⟨v2, rfl, hb2, hv2⟩; have HB2 := Lib.hid hb2; have HV2 := Lib.hid hv2; clear hb2 hv2)
  obtain ⟨p3, c3, k3, rfl, hk3⟩ := HV2.out.slice
  have hk0 : 0 < k3 := Nat.pos_of_ne_zero fun h => hg0 (hk3.1 h)
  clear a1 hk3
  have hhx := HB2.out.heap HXa.out
  have hhr := HB2.out.heap HXR.out
  by_cases hg1 : g = 1
  · subst hg1
    obtain ⟨b3, o3, c3', he, hc3, q3⟩ := nr_one HV2.out (by decide) (by decide)
    simp only [Value.slice.injEq] at he
    obtain ⟨rfl, rfl, rfl⟩ := he
    obtain ⟨e1, e2⟩ := HONE.out rfl
    have HE1 := Lib.hid e1
    have HE2 := Lib.hid e2
    have d0 : w2.cell? ⟨Xa, 0, none⟩ = some (.bool s) := (heap_cell hhx 0).trans rfl
    have d1 : w2.cell? ⟨Xa, 1, none⟩ = some (.slice p1 k1 c1) := (heap_cell hhx 1).trans rfl
    clear hhx hhr e1 e2
    have hhXR := (HB2.out).heap HXR.out
    have HHXR := Lib.hid hhXR
    have dXR0 : w2.cell? ⟨XR, 0, none⟩ = some (.bool false) := (heap_cell hhXR 0).trans rfl
    have fXR0 : w2.frozen? ⟨XR, 0, none⟩ = false := heap_frozen hhXR 0
    have dXR1 : w2.cell? ⟨XR, 1, none⟩ = some (.slice none 0 0) := (heap_cell hhXR 1).trans rfl
    have fXR1 : w2.frozen? ⟨XR, 1, none⟩ = false := heap_frozen hhXR 1
    have dXR2 : w2.cell? ⟨XR, 2, none⟩ = some (.slice none 0 0) := (heap_cell hhXR 2).trans rfl
    have fXR2 : w2.frozen? ⟨XR, 2, none⟩ = false := heap_frozen hhXR 2
    clear hhXR
    go_wp2
    obtain ⟨kb, kp, kh⟩ := finAll (vs := [.bool s, .slice p1 k1 c1, .slice p2 k2 c2]) (HBW.out.trans HB2.out) HHXR.out rfl HGEXR.out (Φ := fun W2 => RQ W2 (.agg #[.bool s, .slice p1 k1 c1, .slice p2 k2 c2]) R) (fun W2 ho => ⟨_, _, by rw [HP3.out, HS.out], by rw [HE1.out]; exact (HU.out.bel (HBW.out.trans HB2.out)).only ho HHXR.out (noInt_rat32 _ _ _ _ _ _ _), by rw [HE2.out]; exact (HB0.out.bel (HBW.out.trans HB2.out)).only ho HHXR.out (noInt_rat32 _ _ _ _ _ _ _)⟩)
    have kk0 : (setAll w2 XR 0 [.bool s, .slice p1 k1 c1, .slice p2 k2 c2]).cell? ⟨XR, 0, none⟩ = some (.bool s) := (heap_cell kh 0).trans rfl
    have kk1 : (setAll w2 XR 0 [.bool s, .slice p1 k1 c1, .slice p2 k2 c2]).cell? ⟨XR, 1, none⟩ = some (.slice p1 k1 c1) := (heap_cell kh 1).trans rfl
    have kk2 : (setAll w2 XR 0 [.bool s, .slice p1 k1 c1, .slice p2 k2 c2]).cell? ⟨XR, 2, none⟩ = some (.slice p2 k2 c2) := (heap_cell kh 2).trans rfl
    simp only [setAll] at kb kp kk0 kk1 kk2
    exact bodyPost_ret (v := .agg #[.bool s, .slice p1 k1 c1, .slice p2 k2 c2]) (by simp [results, Tryz.results75, go_sem, kk0, kk1, kk2]) rfl ⟨_, rfl, kb, kp⟩
  · by_cases hone : k3 = 1
    · subst hone
      have hl := len_one (nr_len HV2.out).symm
      obtain ⟨b3, o3, c3', he, hc3, q3⟩ := nr_one HV2.out hl.1 hl.2
      simp only [Value.slice.injEq] at he
      obtain ⟨rfl, _, rfl⟩ := he
      have hgi : ((g : Int) == 1) = false := beq_false_of_ne (by omega)
      clear hg1 hl
      have HXa2 := Lib.hid hhx
      have HXR2 := Lib.hid hhr
      have HBW2 := Lib.hid (HBW.out.trans HB2.out)
      have HV3 := HV2
      clear hhx hhr HXa HXR
      have HXR := HXR2
      clear HXR2 HONE
      go_upto_region 4 with fail
      have hfq := run_fieldQ
      refine region_flow 13 [[], [0], [], [2], [], [3, 4], [5], [1, 6], [], [], [8, 9], [10], [7, 11]] [.is (.pointer (some ⟨Xa, 0, none⟩)), .is (.bool s), .is (.pointer (some ⟨Xa, 1, none⟩)), .is (.slice p1 k1 c1), .is (.slice (some ⟨b3, o3, none⟩) 1 c3), .has (fun v w => ∃ u t, v = .agg #[u, t] ∧ NR w u (x.natAbs / g) ∧ NR w t (x.natAbs % g)), .has (fun v w => NR w v (x.natAbs / g)), .has (fun v w => ∃ p k c, v = .agg #[.bool s, .slice p k c] ∧ NR w (.slice p k c) (x.natAbs / g)), .is (.slice p2 k2 c2), .is (.slice (some ⟨b3, o3, none⟩) 1 c3), .has (fun v w => ∃ u t, v = .agg #[u, t] ∧ NR w u (n / g) ∧ NR w t (n % g)), .has (fun v w => NR w v (n / g)), .has (fun v w => RQ w v R)] (by kernel_rfl) (by kernel_rfl) rfl (by simp only [Steady]; exact ⟨fun _ _ _ h hb => by obtain ⟨u, t, h1, h2, h3⟩ := h; exact ⟨u, t, h1, h2.bel hb, h3.bel hb⟩, fun _ _ _ h hb => h.bel hb, fun _ _ _ h hb => by obtain ⟨p, k, c, h1, h2⟩ := h; exact ⟨p, k, c, h1, h2.bel hb⟩, fun _ _ _ h hb => by obtain ⟨u, t, h1, h2, h3⟩ := h; exact ⟨u, t, h1, h2.bel hb, h3.bel hb⟩, fun _ _ _ h hb => h.bel hb, fun _ _ _ h hb => h.bel hb, trivial⟩) ?_
      simp only [List.take_succ_cons, List.take_zero, List.drop_succ_cons, List.drop_zero]
      refine fV (by rfl) (by intro w1 hw1 hk1; go_simp) ?_
      simp only [Act.put, sA, sB, sC]
      refine fV (by rfl) (by intro w1 hw1 hk1; have c0 : w1.cell? ⟨Xa, 0, none⟩ = some (.bool s) := (heap_cell (hw1.heap HXa2.out) 0).trans rfl; go_simp) ?_
      simp only [Act.put, sA, sB, sC]
      refine fV (by rfl) (by intro w1 hw1 hk1; go_simp) ?_
      simp only [Act.put, sA, sB, sC]
      refine fV (by rfl) (by intro w1 hw1 hk1; have c1 : w1.cell? ⟨Xa, 1, none⟩ = some (.slice p1 k1 c1) := (heap_cell (hw1.heap HXa2.out) 1).trans rfl; go_simp) ?_
      simp only [Act.put, sA, sB, sC]
      refine fV (by rfl) (by intro w1 hw1 hk1; go_simp) ?_
      simp only [Act.put, sA, sB, sC]
      refine fH (by rfl) (by intro w1 hw1 hk1; exact HD1.out _ _ (HBW2.out.trans hw1) (HV3.out.bel hw1)) (by intro; go_simp) (fun v5 => ?_)
      simp only [Act.put, sA, sB, sC]
      refine flow_has (by intro w1 hw1 hk1; obtain ⟨g5, -⟩ := hk1; obtain ⟨u, t, rfl, hu, -⟩ := g5; refine want (by rfl) (gives_of (c := u) (by go_simp) ?_); exact hu) (fun v6 => ?_)
      simp only [Act.put, sA, sB, sC]
      refine flow_has (by intro w1 hw1 hk1; obtain ⟨g6, -, -⟩ := hk1; obtain ⟨p, c, k, rfl, -⟩ := g6.slice; refine want (by rfl) (gives_of (c := .agg #[.bool s, .slice p k c]) (by go_simp) ?_); exact ⟨_, _, _, rfl, g6⟩) (fun v7 => ?_)
      simp only [Act.put, sA, sB, sC]
      refine fV (by rfl) (by intro w1 hw1 hk1; go_simp) ?_
      simp only [Act.put, sA, sB, sC]
      refine fV (by rfl) (by intro w1 hw1 hk1; go_simp) ?_
      simp only [Act.put, sA, sB, sC]
      refine fH (by rfl) (by intro w1 hw1 hk1; exact HD2.out _ _ (HBW2.out.trans hw1) (HV3.out.bel hw1)) (by intro; go_simp) (fun v10 => ?_)
      simp only [Act.put, sA, sB, sC]
      refine flow_has (by intro w1 hw1 hk1; obtain ⟨g10, -, -, -, -⟩ := hk1; obtain ⟨u, t, rfl, hu, -⟩ := g10; refine want (by rfl) (gives_of (c := u) (by go_simp) ?_); exact hu) (fun v11 => ?_)
      simp only [Act.put, sA, sB, sC]
      refine flow_has (by intro w1 hw1 hk1; obtain ⟨g11, -, g7, -, -, -⟩ := hk1; obtain ⟨p, k, c, rfl, h7⟩ := g7; obtain ⟨q, e, m, rfl, -⟩ := g11.slice; refine want (by rfl) (gives_of (c := .agg #[.bool s, .slice p k c, .slice q m e]) (by go_simp) ?_); exact ⟨_, _, by rw [HP3.out, HS.out], by rw [HP1.out]; exact h7, by rw [HP2.out]; exact g11⟩) (fun v12 => ?_)
      simp only [Act.put, sA, sB, sC]
      intro w1 hw1 hk1
      obtain ⟨g12, g11, g10, g7, g6, g5, -⟩ := hk1
      obtain ⟨p6, k6, c6, p7, k7, c7, rfl, -, -⟩ := g12.slice
      have HV := Lib.hid g12
      have HB3 := Lib.hid hw1
      have hhXR := (HB3.out).heap HXR.out
      have HHXR := Lib.hid hhXR
      have dXR0 : w1.cell? ⟨XR, 0, none⟩ = some (.bool false) := (heap_cell hhXR 0).trans rfl
      have fXR0 : w1.frozen? ⟨XR, 0, none⟩ = false := heap_frozen hhXR 0
      have dXR1 : w1.cell? ⟨XR, 1, none⟩ = some (.slice none 0 0) := (heap_cell hhXR 1).trans rfl
      have fXR1 : w1.frozen? ⟨XR, 1, none⟩ = false := heap_frozen hhXR 1
      have dXR2 : w1.cell? ⟨XR, 2, none⟩ = some (.slice none 0 0) := (heap_cell hhXR 2).trans rfl
      have fXR2 : w1.frozen? ⟨XR, 2, none⟩ = false := heap_frozen hhXR 2
      clear hhXR
      clear hw1 g12 g11 g10 g7 g6 g5 hfq
      go_wp2
      obtain ⟨kb, kp, kh⟩ := finAll (vs := [.bool (decide (R.num < 0)), .slice p6 k6 c6, .slice p7 k7 c7]) (HBW2.out.trans HB3.out) HHXR.out rfl HGEXR.out (Φ := fun W2 => RQ W2 (.agg #[.bool (decide (R.num < 0)), .slice p6 k6 c6, .slice p7 k7 c7]) R) (fun W2 ho => HV.out.only ho HHXR.out (noInt_rat32 _ _ _ _ _ _ _))
      have kk0 : (setAll w1 XR 0 [.bool (decide (R.num < 0)), .slice p6 k6 c6, .slice p7 k7 c7]).cell? ⟨XR, 0, none⟩ = some (.bool (decide (R.num < 0))) := (heap_cell kh 0).trans rfl
      have kk1 : (setAll w1 XR 0 [.bool (decide (R.num < 0)), .slice p6 k6 c6, .slice p7 k7 c7]).cell? ⟨XR, 1, none⟩ = some (.slice p6 k6 c6) := (heap_cell kh 1).trans rfl
      have kk2 : (setAll w1 XR 0 [.bool (decide (R.num < 0)), .slice p6 k6 c6, .slice p7 k7 c7]).cell? ⟨XR, 2, none⟩ = some (.slice p7 k7 c7) := (heap_cell kh 2).trans rfl
      simp only [setAll] at kb kp kk0 kk1 kk2
      exact bodyPost_ret (v := .agg #[.bool (decide (R.num < 0)), .slice p6 k6 c6, .slice p7 k7 c7]) (by simp [results, Tryz.results75, go_sem, kk0, kk1, kk2]) rfl ⟨_, rfl, kb, kp⟩
    · have hki : ((k3 : Int) == 1) = false := beq_false_of_ne (by omega)
      have HXa2 := Lib.hid hhx
      have HXR2 := Lib.hid hhr
      have HBW2 := Lib.hid (HBW.out.trans HB2.out)
      have HV3 := HV2
      clear hhx hhr HXa HXR
      have HXR := HXR2
      clear HXR2 HONE
      go_upto_region 4 with fail
      have hfq := run_fieldQ
      refine region_flow 13 [[], [0], [], [2], [], [3, 4], [5], [1, 6], [], [], [8, 9], [10], [7, 11]] [.is (.pointer (some ⟨Xa, 0, none⟩)), .is (.bool s), .is (.pointer (some ⟨Xa, 1, none⟩)), .is (.slice p1 k1 c1), .is (.slice p3 k3 c3), .has (fun v w => ∃ u t, v = .agg #[u, t] ∧ NR w u (x.natAbs / g) ∧ NR w t (x.natAbs % g)), .has (fun v w => NR w v (x.natAbs / g)), .has (fun v w => ∃ p k c, v = .agg #[.bool s, .slice p k c] ∧ NR w (.slice p k c) (x.natAbs / g)), .is (.slice p2 k2 c2), .is (.slice p3 k3 c3), .has (fun v w => ∃ u t, v = .agg #[u, t] ∧ NR w u (n / g) ∧ NR w t (n % g)), .has (fun v w => NR w v (n / g)), .has (fun v w => RQ w v R)] (by kernel_rfl) (by kernel_rfl) rfl (by simp only [Steady]; exact ⟨fun _ _ _ h hb => by obtain ⟨u, t, h1, h2, h3⟩ := h; exact ⟨u, t, h1, h2.bel hb, h3.bel hb⟩, fun _ _ _ h hb => h.bel hb, fun _ _ _ h hb => by obtain ⟨p, k, c, h1, h2⟩ := h; exact ⟨p, k, c, h1, h2.bel hb⟩, fun _ _ _ h hb => by obtain ⟨u, t, h1, h2, h3⟩ := h; exact ⟨u, t, h1, h2.bel hb, h3.bel hb⟩, fun _ _ _ h hb => h.bel hb, fun _ _ _ h hb => h.bel hb, trivial⟩) ?_
      simp only [List.take_succ_cons, List.take_zero, List.drop_succ_cons, List.drop_zero]
      refine fV (by rfl) (by intro w1 hw1 hk1; go_simp) ?_
      simp only [Act.put, sA, sB, sC]
      refine fV (by rfl) (by intro w1 hw1 hk1; have c0 : w1.cell? ⟨Xa, 0, none⟩ = some (.bool s) := (heap_cell (hw1.heap HXa2.out) 0).trans rfl; go_simp) ?_
      simp only [Act.put, sA, sB, sC]
      refine fV (by rfl) (by intro w1 hw1 hk1; go_simp) ?_
      simp only [Act.put, sA, sB, sC]
      refine fV (by rfl) (by intro w1 hw1 hk1; have c1 : w1.cell? ⟨Xa, 1, none⟩ = some (.slice p1 k1 c1) := (heap_cell (hw1.heap HXa2.out) 1).trans rfl; go_simp) ?_
      simp only [Act.put, sA, sB, sC]
      refine fV (by rfl) (by intro w1 hw1 hk1; go_simp) ?_
      simp only [Act.put, sA, sB, sC]
      refine fH (by rfl) (by intro w1 hw1 hk1; exact HD1.out _ _ (HBW2.out.trans hw1) (HV3.out.bel hw1)) (by intro; go_simp) (fun v5 => ?_)
      simp only [Act.put, sA, sB, sC]
      refine flow_has (by intro w1 hw1 hk1; obtain ⟨g5, -⟩ := hk1; obtain ⟨u, t, rfl, hu, -⟩ := g5; refine want (by rfl) (gives_of (c := u) (by go_simp) ?_); exact hu) (fun v6 => ?_)
      simp only [Act.put, sA, sB, sC]
      refine flow_has (by intro w1 hw1 hk1; obtain ⟨g6, -, -⟩ := hk1; obtain ⟨p, c, k, rfl, -⟩ := g6.slice; refine want (by rfl) (gives_of (c := .agg #[.bool s, .slice p k c]) (by go_simp) ?_); exact ⟨_, _, _, rfl, g6⟩) (fun v7 => ?_)
      simp only [Act.put, sA, sB, sC]
      refine fV (by rfl) (by intro w1 hw1 hk1; go_simp) ?_
      simp only [Act.put, sA, sB, sC]
      refine fV (by rfl) (by intro w1 hw1 hk1; go_simp) ?_
      simp only [Act.put, sA, sB, sC]
      refine fH (by rfl) (by intro w1 hw1 hk1; exact HD2.out _ _ (HBW2.out.trans hw1) (HV3.out.bel hw1)) (by intro; go_simp) (fun v10 => ?_)
      simp only [Act.put, sA, sB, sC]
      refine flow_has (by intro w1 hw1 hk1; obtain ⟨g10, -, -, -, -⟩ := hk1; obtain ⟨u, t, rfl, hu, -⟩ := g10; refine want (by rfl) (gives_of (c := u) (by go_simp) ?_); exact hu) (fun v11 => ?_)
      simp only [Act.put, sA, sB, sC]
      refine flow_has (by intro w1 hw1 hk1; obtain ⟨g11, -, g7, -, -, -⟩ := hk1; obtain ⟨p, k, c, rfl, h7⟩ := g7; obtain ⟨q, e, m, rfl, -⟩ := g11.slice; refine want (by rfl) (gives_of (c := .agg #[.bool s, .slice p k c, .slice q m e]) (by go_simp) ?_); exact ⟨_, _, by rw [HP3.out, HS.out], by rw [HP1.out]; exact h7, by rw [HP2.out]; exact g11⟩) (fun v12 => ?_)
      simp only [Act.put, sA, sB, sC]
      intro w1 hw1 hk1
      obtain ⟨g12, g11, g10, g7, g6, g5, -⟩ := hk1
      obtain ⟨p6, k6, c6, p7, k7, c7, rfl, -, -⟩ := g12.slice
      have HV := Lib.hid g12
      have HB3 := Lib.hid hw1
      have hhXR := (HB3.out).heap HXR.out
      have HHXR := Lib.hid hhXR
      have dXR0 : w1.cell? ⟨XR, 0, none⟩ = some (.bool false) := (heap_cell hhXR 0).trans rfl
      have fXR0 : w1.frozen? ⟨XR, 0, none⟩ = false := heap_frozen hhXR 0
      have dXR1 : w1.cell? ⟨XR, 1, none⟩ = some (.slice none 0 0) := (heap_cell hhXR 1).trans rfl
      have fXR1 : w1.frozen? ⟨XR, 1, none⟩ = false := heap_frozen hhXR 1
      have dXR2 : w1.cell? ⟨XR, 2, none⟩ = some (.slice none 0 0) := (heap_cell hhXR 2).trans rfl
      have fXR2 : w1.frozen? ⟨XR, 2, none⟩ = false := heap_frozen hhXR 2
      clear hhXR
      clear hw1 g12 g11 g10 g7 g6 g5 hfq
      go_wp2
      obtain ⟨kb, kp, kh⟩ := finAll (vs := [.bool (decide (R.num < 0)), .slice p6 k6 c6, .slice p7 k7 c7]) (HBW2.out.trans HB3.out) HHXR.out rfl HGEXR.out (Φ := fun W2 => RQ W2 (.agg #[.bool (decide (R.num < 0)), .slice p6 k6 c6, .slice p7 k7 c7]) R) (fun W2 ho => HV.out.only ho HHXR.out (noInt_rat32 _ _ _ _ _ _ _))
      have kk0 : (setAll w1 XR 0 [.bool (decide (R.num < 0)), .slice p6 k6 c6, .slice p7 k7 c7]).cell? ⟨XR, 0, none⟩ = some (.bool (decide (R.num < 0))) := (heap_cell kh 0).trans rfl
      have kk1 : (setAll w1 XR 0 [.bool (decide (R.num < 0)), .slice p6 k6 c6, .slice p7 k7 c7]).cell? ⟨XR, 1, none⟩ = some (.slice p6 k6 c6) := (heap_cell kh 1).trans rfl
      have kk2 : (setAll w1 XR 0 [.bool (decide (R.num < 0)), .slice p6 k6 c6, .slice p7 k7 c7]).cell? ⟨XR, 2, none⟩ = some (.slice p7 k7 c7) := (heap_cell kh 2).trans rfl
      simp only [setAll] at kb kp kk0 kk1 kk2
      exact bodyPost_ret (v := .agg #[.bool (decide (R.num < 0)), .slice p6 k6 c6, .slice p7 k7 c7]) (by simp [results, Tryz.results75, go_sem, kk0, kk1, kk2]) rfl ⟨_, rfl, kb, kp⟩
theorem mk_r3made_small {w : World} {a b : Value} {x : Int} {n : Nat} (ha : RZ w a x) (hb : NR w b n) (hn0 : n ≠ 0) (hn : n < B32) (hx : (limB B32 x.natAbs).length < 1000000000) : Calls Tryz.prog 75 #[a, b] w (Makes w fun v w' => RQ w' v (mkRat x n)) := by
  have hg : Nat.gcd x.natAbs n < B32 := Nat.lt_of_le_of_lt (Nat.le_of_dvd (Nat.pos_of_ne_zero hn0) (Nat.gcd_dvd_right _ _)) hn
  have hg0 : 0 < Nat.gcd x.natAbs n := Nat.pos_of_ne_zero fun h => hn0 (Nat.eq_zero_of_gcd_eq_zero_right h)
  have hnl : (limB B32 n).length < 1000000000 := by rw [lim_small b32_two (Nat.pos_of_ne_zero hn0) hn]; simp
  exact mk_r3made_gen ha hb hn0 (fun X u v hu hv => rgcd_small hu hv hx hn) (fun X u v m hm hu hv => rdm_one hu hv (by rcases hm with rfl | rfl <;> assumption) hg0 hg)
theorem lim32_i64 {v : Int} (h1 : -9223372036854775808 ≤ v) (h2 : v < 9223372036854775808) : (limB B32 v.natAbs).length < 1000000000 :=
  Nat.lt_of_le_of_lt (lim_len b32_two (k := 2) (Nat.lt_of_lt_of_le (m := 9223372036854775809) (by omega) (by decide))) (by decide)
set_option maxHeartbeats 2000000 in
set_option maxRecDepth 100000 in
theorem mk_r3of {p : Int} {q : Nat} (hp1 : -9223372036854775808 ≤ p) (hp2 : p < 9223372036854775808) (hq0 : q ≠ 0) (hq : q < B32) (w : World) :
    Calls Tryz.prog 106 #[.int .i64 p, .int .i64 (q : Int)] w (Makes w fun v w' => RQ w' v (mkRat p q)) := by
  have hqB : q < 4294967296 := hq
  have HZ1 := Lib.hid (mk_r2of p hp1 hp2)
  have HZ2 := Lib.hid (mk_r2of (q : Int) (by omega) (by omega))
  have hpl := lim32_i64 hp1 hp2
  have HM : Hid (∀ X u v, RZ X u p → NR X v q → _) := fun X u v hu hv => mk_r3made_small (w := X) hu hv hq0 hq hpl
  obtain ⟨R, hR⟩ : ∃ R, mkRat p q = R := ⟨_, rfl⟩
  rw [hR] at HM ⊢
  have hqi : ((q : Int) == 0) = false := beq_false_of_ne (by omega)
  have HQN : Hid (decide ((q : Int) < 0) = false) := decide_eq_false (by omega)
  obtain ⟨s, hs⟩ : ∃ s, decide (p < 0) = s := ⟨_, rfl⟩
  have HS := Lib.hid hs
  clear hp1 hp2 hq hq0 hpl hR hs
  go_enter Tryz.func106, Tryz.ntmps106
  go_upto_region 1 with fail
  obtain ⟨hXR, hbw⟩ := boxes1 w (.cells #[.bool false, .slice none 0 0, .slice none 0 0] 37)
  obtain ⟨W, hW⟩ : ∃ W, w.alloc (.cells #[.bool false, .slice none 0 0, .slice none 0 0] 37) = W := ⟨_, rfl⟩
  rw [hW] at hXR hbw ⊢
  obtain ⟨XR, eXR⟩ : ∃ X, w.heap.size = X := ⟨_, rfl⟩
  rw [eXR]
  rw [eXR] at hXR
  have HXR := Lib.hid hXR
  have HBW := Lib.hid hbw
  have HGEXR : Hid (w.heap.size ≤ XR) := by unfold Hid; omega
  clear hW hbw hXR eXR
  go_upto_region 4 with (first
    | (go_at_call 148; (with_reducible refine (HZ1.out _).mono ?_); rintro e w2 ⟨v2, rfl, hb2, hv2⟩; have HB2 := Lib.hid hb2; have HV2 := Lib.hid hv2; clear hb2 hv2)
    | (go_at_call 148; (with_reducible refine (HZ2.out _).mono ?_); rintro e w3 ⟨v3, rfl, hb3, hv3⟩; have HB3 := Lib.hid (HB2.out.trans hb3); have HV3 := Lib.hid hv3; have HV4 := Lib.hid (HV2.out.bel hb3); clear hb3 hv3; obtain ⟨p5, k5, c5, rfl, hn5⟩ := HV4.out.slice; obtain ⟨p6, k6, c6, rfl, hn6⟩ := HV3.out.slice; have HN5 := Lib.hid hn5; have HN6 := Lib.hid hn6; clear hn5 hn6; rw [HS.out] at HV4 ⊢; rw [HQN.out]))
  obtain ⟨r5, r6, bb⟩ := boxes2 w3 (.cells #[.bool s, .slice p5 k5 c5] 35 (0, 0)) (.cells #[.bool false, .slice p6 k6 c6] 35 (0, 0))
  obtain ⟨X5, hX5⟩ : ∃ X, w3.heap.size = X := ⟨_, rfl⟩
  rw [hX5] at r5 r6 ⊢
  obtain ⟨X6, hX6⟩ : ∃ X, X5 + 1 = X := ⟨_, rfl⟩
  rw [hX6] at r6 ⊢
  obtain ⟨W5, hW5⟩ : ∃ W', (w3.alloc (.cells #[.bool s, .slice p5 k5 c5] 35 (0, 0))).alloc (.cells #[.bool false, .slice p6 k6 c6] 35 (0, 0)) = W' := ⟨_, rfl⟩
  rw [hW5] at r5 r6 bb ⊢
  have HX5 := Lib.hid r5
  have HX6 := Lib.hid r6
  have HXR' := Lib.hid (bb.heap (HB3.out.heap HXR.out))
  have HBW5 := Lib.hid (HBW.out.trans (HB3.out.trans bb))
  have HV4' := Lib.hid (HV4.out.bel bb)
  have HN6' := Lib.hid (HN6.out.bel bb)
  have HK0 : Hid (s = true → 0 < k5) := fun h => by
    obtain ⟨_, _, k, he, hk⟩ := HN5.out.slice
    simp only [Value.slice.injEq] at he
    obtain ⟨_, rfl, _⟩ := he
    have hp : p < 0 := by have := HS.out; rw [h] at this; exact of_decide_eq_true this
    exact Nat.pos_of_ne_zero fun h0 => by have := hk.1 h0; omega
  clear r5 r6 bb hX5 hX6 hW5 HXR HV4 HN6 HN5 HV2 HV3 HB2 HB3
  have HXR := HXR'
  have HV4 := HV4'
  have HN6 := HN6'
  clear HXR' HV4' HN6' HZ1 HZ2 HS HQN
  cases s with
  | false =>
    refine line_region 17 [[], [0], [], [2], [1, 3], [4], [5], [5, 6], [5, 7], [5, 8], [5, 9], [], [11], [10, 12], [], [14], [13, 15]] [.is (.pointer (some ⟨X5, 0, none⟩)), .is (.bool false), .is (.pointer (some ⟨X6, 0, none⟩)), .is (.bool false), .is (.bool false), .is (.bool false), .is undef, .is undef, .is undef, .is undef, .is (.bool false), .is (.pointer (some ⟨X5, 1, none⟩)), .is (.slice p5 k5 c5), .is (.agg #[.bool false, .slice p5 k5 c5]), .is (.pointer (some ⟨X6, 1, none⟩)), .is (.slice p6 k6 c6), .has (fun v w => RQ w v R)] rfl rfl (by decide) (by simp only [Steady]; exact ⟨fun _ _ _ h hb => h.bel hb, trivial⟩) ?_
    simp only [List.take_succ_cons, List.take_zero, List.drop_succ_cons, List.drop_zero]
    refine fV (by rfl) (by intro w1 hw1 hk1; go_simp) ?_
    simp only [Act.put, sA, sB, sC]
    refine fV (by rfl) (by intro w1 hw1 hk1; have c0 : w1.cell? ⟨X5, 0, none⟩ = some (.bool false) := (heap_cell (hw1.heap HX5.out) 0).trans rfl; go_simp) ?_
    simp only [Act.put, sA, sB, sC]
    refine fV (by rfl) (by intro w1 hw1 hk1; go_simp) ?_
    simp only [Act.put, sA, sB, sC]
    refine fV (by rfl) (by intro w1 hw1 hk1; have c0 : w1.cell? ⟨X6, 0, none⟩ = some (.bool false) := (heap_cell (hw1.heap HX6.out) 0).trans rfl; go_simp) ?_
    simp only [Act.put, sA, sB, sC]
    refine fV (by rfl) (by intro w1 hw1 hk1; go_simp) ?_
    simp only [Act.put, sA, sB, sC]
    refine fV (by rfl) (by intro w1 hw1 hk1; go_simp) ?_
    simp only [Act.put, sA, sB, sC]
    refine flow_is (fun w1 hw1 hk1 => wantnot (fun h => Bool.noConfusion (show false = true from h)) rfl) ?_
    simp only [Act.put, sA, sB, sC]
    refine flow_is (fun w1 hw1 hk1 => wantnot (fun h => Bool.noConfusion (show false = true from h)) rfl) ?_
    simp only [Act.put, sA, sB, sC]
    refine flow_is (fun w1 hw1 hk1 => wantnot (fun h => Bool.noConfusion (show false = true from h)) rfl) ?_
    simp only [Act.put, sA, sB, sC]
    refine flow_is (fun w1 hw1 hk1 => wantnot (fun h => Bool.noConfusion (show false = true from h)) rfl) ?_
    simp only [Act.put, sA, sB, sC]
    refine fV (by rfl) (by intro w1 hw1 hk1; go_simp) ?_
    simp only [Act.put, sA, sB, sC]
    refine fV (by rfl) (by intro w1 hw1 hk1; go_simp) ?_
    simp only [Act.put, sA, sB, sC]
    refine fV (by rfl) (by intro w1 hw1 hk1; have c1 : w1.cell? ⟨X5, 1, none⟩ = some (.slice p5 k5 c5) := (heap_cell (hw1.heap HX5.out) 1).trans rfl; go_simp) ?_
    simp only [Act.put, sA, sB, sC]
    refine fV (by rfl) (by intro w1 hw1 hk1; go_simp) ?_
    simp only [Act.put, sA, sB, sC]
    refine fV (by rfl) (by intro w1 hw1 hk1; go_simp) ?_
    simp only [Act.put, sA, sB, sC]
    refine fV (by rfl) (by intro w1 hw1 hk1; have c1 : w1.cell? ⟨X6, 1, none⟩ = some (.slice p6 k6 c6) := (heap_cell (hw1.heap HX6.out) 1).trans rfl; go_simp) ?_
    simp only [Act.put, sA, sB, sC]
    refine fH (by rfl) (by intro w1 hw1 hk1; exact HM.out _ _ _ (HV4.out.bel hw1) (HN6.out.bel hw1)) (by intro; go_simp) (fun v16 => ?_)
    simp only [Act.put, sA, sB, sC]
    intro w1 hw1 hk1
    obtain ⟨g16, -⟩ := hk1
    obtain ⟨p8, k8, c8, p9, k9, c9, rfl, -, -⟩ := g16.slice
    have HV := Lib.hid g16
    have HB5 := Lib.hid hw1
    have hhXR := (HB5.out).heap HXR.out
    have HHXR := Lib.hid hhXR
    have dXR0 : w1.cell? ⟨XR, 0, none⟩ = some (.bool false) := (heap_cell hhXR 0).trans rfl
    have fXR0 : w1.frozen? ⟨XR, 0, none⟩ = false := heap_frozen hhXR 0
    have dXR1 : w1.cell? ⟨XR, 1, none⟩ = some (.slice none 0 0) := (heap_cell hhXR 1).trans rfl
    have fXR1 : w1.frozen? ⟨XR, 1, none⟩ = false := heap_frozen hhXR 1
    have dXR2 : w1.cell? ⟨XR, 2, none⟩ = some (.slice none 0 0) := (heap_cell hhXR 2).trans rfl
    have fXR2 : w1.frozen? ⟨XR, 2, none⟩ = false := heap_frozen hhXR 2
    clear hhXR
    clear hw1 g16
    go_wp2
    obtain ⟨kb, kp, kh⟩ := finAll (vs := [.bool (decide (R.num < 0)), .slice p8 k8 c8, .slice p9 k9 c9]) (HBW5.out.trans HB5.out) HHXR.out rfl HGEXR.out (Φ := fun W2 => RQ W2 (.agg #[.bool (decide (R.num < 0)), .slice p8 k8 c8, .slice p9 k9 c9]) R) (fun W2 ho => HV.out.only ho HHXR.out (noInt_rat32 _ _ _ _ _ _ _))
    have kk0 : (setAll w1 XR 0 [.bool (decide (R.num < 0)), .slice p8 k8 c8, .slice p9 k9 c9]).cell? ⟨XR, 0, none⟩ = some (.bool (decide (R.num < 0))) := (heap_cell kh 0).trans rfl
    have kk1 : (setAll w1 XR 0 [.bool (decide (R.num < 0)), .slice p8 k8 c8, .slice p9 k9 c9]).cell? ⟨XR, 1, none⟩ = some (.slice p8 k8 c8) := (heap_cell kh 1).trans rfl
    have kk2 : (setAll w1 XR 0 [.bool (decide (R.num < 0)), .slice p8 k8 c8, .slice p9 k9 c9]).cell? ⟨XR, 2, none⟩ = some (.slice p9 k9 c9) := (heap_cell kh 2).trans rfl
    simp only [setAll] at kb kp kk0 kk1 kk2
    exact bodyPost_ret (v := .agg #[.bool (decide (R.num < 0)), .slice p8 k8 c8, .slice p9 k9 c9]) (by simp [results, Tryz.results106, go_sem, kk0, kk1, kk2]) rfl ⟨_, rfl, kb, kp⟩
  | true =>
    have HK := Lib.hid (HK0.out rfl)
    refine line_region 17 [[], [0], [], [2], [1, 3], [4], [5], [5, 6], [5, 7], [5, 8], [5, 9], [], [11], [10, 12], [], [14], [13, 15]] [.is (.pointer (some ⟨X5, 0, none⟩)), .is (.bool true), .is (.pointer (some ⟨X6, 0, none⟩)), .is (.bool false), .is (.bool true), .is (.bool true), .is (.pointer (some ⟨X5, 1, none⟩)), .is (.slice p5 k5 c5), .is (.int .i64 (k5 : Nat)), .is (.bool true), .is (.bool true), .is (.pointer (some ⟨X5, 1, none⟩)), .is (.slice p5 k5 c5), .is (.agg #[.bool true, .slice p5 k5 c5]), .is (.pointer (some ⟨X6, 1, none⟩)), .is (.slice p6 k6 c6), .has (fun v w => RQ w v R)] rfl rfl (by decide) (by simp only [Steady]; exact ⟨fun _ _ _ h hb => h.bel hb, trivial⟩) ?_
    simp only [List.take_succ_cons, List.take_zero, List.drop_succ_cons, List.drop_zero]
    refine fV (by rfl) (by intro w1 hw1 hk1; go_simp) ?_
    simp only [Act.put, sA, sB, sC]
    refine fV (by rfl) (by intro w1 hw1 hk1; have c0 : w1.cell? ⟨X5, 0, none⟩ = some (.bool true) := (heap_cell (hw1.heap HX5.out) 0).trans rfl; go_simp) ?_
    simp only [Act.put, sA, sB, sC]
    refine fV (by rfl) (by intro w1 hw1 hk1; go_simp) ?_
    simp only [Act.put, sA, sB, sC]
    refine fV (by rfl) (by intro w1 hw1 hk1; have c0 : w1.cell? ⟨X6, 0, none⟩ = some (.bool false) := (heap_cell (hw1.heap HX6.out) 0).trans rfl; go_simp) ?_
    simp only [Act.put, sA, sB, sC]
    refine fV (by rfl) (by intro w1 hw1 hk1; go_simp) ?_
    simp only [Act.put, sA, sB, sC]
    refine fV (by rfl) (by intro w1 hw1 hk1; go_simp) ?_
    simp only [Act.put, sA, sB, sC]
    refine fV (by rfl) (by intro w1 hw1 hk1; go_simp) ?_
    simp only [Act.put, sA, sB, sC]
    refine fV (by rfl) (by intro w1 hw1 hk1; have c1 : w1.cell? ⟨X5, 1, none⟩ = some (.slice p5 k5 c5) := (heap_cell (hw1.heap HX5.out) 1).trans rfl; go_simp) ?_
    simp only [Act.put, sA, sB, sC]
    refine fV (by rfl) (by intro w1 hw1 hk1; go_simp) ?_
    simp only [Act.put, sA, sB, sC]
    refine flow_is (by intro w1 hw1 hk1; refine want (by rfl) (gives_val ?_); go_simp; (first | done | (have := HK.out; omega) | (simp; have := HK.out; omega))) ?_
    simp only [Act.put, sA, sB, sC]
    refine fV (by rfl) (by intro w1 hw1 hk1; go_simp) ?_
    simp only [Act.put, sA, sB, sC]
    refine fV (by rfl) (by intro w1 hw1 hk1; go_simp) ?_
    simp only [Act.put, sA, sB, sC]
    refine fV (by rfl) (by intro w1 hw1 hk1; have c1 : w1.cell? ⟨X5, 1, none⟩ = some (.slice p5 k5 c5) := (heap_cell (hw1.heap HX5.out) 1).trans rfl; go_simp) ?_
    simp only [Act.put, sA, sB, sC]
    refine fV (by rfl) (by intro w1 hw1 hk1; go_simp) ?_
    simp only [Act.put, sA, sB, sC]
    refine fV (by rfl) (by intro w1 hw1 hk1; go_simp) ?_
    simp only [Act.put, sA, sB, sC]
    refine fV (by rfl) (by intro w1 hw1 hk1; have c1 : w1.cell? ⟨X6, 1, none⟩ = some (.slice p6 k6 c6) := (heap_cell (hw1.heap HX6.out) 1).trans rfl; go_simp) ?_
    simp only [Act.put, sA, sB, sC]
    refine fH (by rfl) (by intro w1 hw1 hk1; exact HM.out _ _ _ (HV4.out.bel hw1) (HN6.out.bel hw1)) (by intro; go_simp) (fun v16 => ?_)
    simp only [Act.put, sA, sB, sC]
    intro w1 hw1 hk1
    obtain ⟨g16, -⟩ := hk1
    obtain ⟨p8, k8, c8, p9, k9, c9, rfl, -, -⟩ := g16.slice
    have HV := Lib.hid g16
    have HB5 := Lib.hid hw1
    have hhXR := (HB5.out).heap HXR.out
    have HHXR := Lib.hid hhXR
    have dXR0 : w1.cell? ⟨XR, 0, none⟩ = some (.bool false) := (heap_cell hhXR 0).trans rfl
    have fXR0 : w1.frozen? ⟨XR, 0, none⟩ = false := heap_frozen hhXR 0
    have dXR1 : w1.cell? ⟨XR, 1, none⟩ = some (.slice none 0 0) := (heap_cell hhXR 1).trans rfl
    have fXR1 : w1.frozen? ⟨XR, 1, none⟩ = false := heap_frozen hhXR 1
    have dXR2 : w1.cell? ⟨XR, 2, none⟩ = some (.slice none 0 0) := (heap_cell hhXR 2).trans rfl
    have fXR2 : w1.frozen? ⟨XR, 2, none⟩ = false := heap_frozen hhXR 2
    clear hhXR
    clear hw1 g16
    go_wp2
    obtain ⟨kb, kp, kh⟩ := finAll (vs := [.bool (decide (R.num < 0)), .slice p8 k8 c8, .slice p9 k9 c9]) (HBW5.out.trans HB5.out) HHXR.out rfl HGEXR.out (Φ := fun W2 => RQ W2 (.agg #[.bool (decide (R.num < 0)), .slice p8 k8 c8, .slice p9 k9 c9]) R) (fun W2 ho => HV.out.only ho HHXR.out (noInt_rat32 _ _ _ _ _ _ _))
    have kk0 : (setAll w1 XR 0 [.bool (decide (R.num < 0)), .slice p8 k8 c8, .slice p9 k9 c9]).cell? ⟨XR, 0, none⟩ = some (.bool (decide (R.num < 0))) := (heap_cell kh 0).trans rfl
    have kk1 : (setAll w1 XR 0 [.bool (decide (R.num < 0)), .slice p8 k8 c8, .slice p9 k9 c9]).cell? ⟨XR, 1, none⟩ = some (.slice p8 k8 c8) := (heap_cell kh 1).trans rfl
    have kk2 : (setAll w1 XR 0 [.bool (decide (R.num < 0)), .slice p8 k8 c8, .slice p9 k9 c9]).cell? ⟨XR, 2, none⟩ = some (.slice p9 k9 c9) := (heap_cell kh 2).trans rfl
    simp only [setAll] at kb kp kk0 kk1 kk2
    exact bodyPost_ret (v := .agg #[.bool (decide (R.num < 0)), .slice p8 k8 c8, .slice p9 k9 c9]) (by simp [results, Tryz.results106, go_sem, kk0, kk1, kk2]) rfl ⟨_, rfl, kb, kp⟩
set_option maxHeartbeats 2000000 in
set_option maxRecDepth 100000 in
theorem mk_r3out {w : World} {a : Value} {q : Rat} (ha : RQ w a q) (h1 : (limB B32 q.num.natAbs).length < 1000000000) (h2 : (limB B32 q.den).length < 1000000000) : Calls Tryz.prog 79 #[a] w (Makes w fun v w' => RC w' v q) := by
  obtain ⟨p1, k1, c1, p2, k2, c2, rfl, hu, hd⟩ := ha.slice
  have HO1 := Lib.hid (fun X (hX : Bel w X) => mk_rout (hd.bel hX) h2)
  have HO2 := Lib.hid (fun X (hX : Bel w X) => mk_r2out (a := .agg #[.bool (decide (q.num < 0)), .slice p1 k1 c1]) ⟨_, rfl, hu.bel hX⟩ h1)
  obtain ⟨s, hs⟩ : ∃ s, decide (q.num < 0) = s := ⟨_, rfl⟩
  rw [hs] at HO2 ⊢
  have HS := Lib.hid hs
  clear ha hu hd h1 h2 hs
  go_enter Tryz.func79, Tryz.ntmps79
  go_upto_region 1 with fail
  obtain ⟨hXa, hXR, hbw⟩ := boxes2 w (.cells #[.bool s, .slice p1 k1 c1, .slice p2 k2 c2] 37) (.cells #[.bool false, .slice none 0 0, .slice none 0 0] 26)
  obtain ⟨W, hW⟩ : ∃ W, (w.alloc (.cells #[.bool s, .slice p1 k1 c1, .slice p2 k2 c2] 37)).alloc (.cells #[.bool false, .slice none 0 0, .slice none 0 0] 26) = W := ⟨_, rfl⟩
  rw [hW] at hXa hXR hbw ⊢
  obtain ⟨Xa, eXa⟩ : ∃ X, w.heap.size = X := ⟨_, rfl⟩
  obtain ⟨XR, eXR⟩ : ∃ X, Xa + 1 = X := ⟨_, rfl⟩
  rw [eXa, eXR]
  rw [eXa] at hXa hXR
  rw [eXR] at hXR
  have HXa := Lib.hid hXa
  have HXR := Lib.hid hXR
  have HBW := Lib.hid hbw
  have HGEXa : Hid (w.heap.size ≤ Xa) := by unfold Hid; omega
  have HGEXR : Hid (w.heap.size ≤ XR) := by unfold Hid; omega
  have HLT : Hid (Xa < XR) := by unfold Hid; omega
  clear hW hbw hXa hXR eXa eXR
  have a2 : W.cell? ⟨Xa, 2, none⟩ = some (.slice p2 k2 c2) := (heap_cell HXa.out 2).trans rfl
  go_upto_region 2 with (go_at_call 126; (with_reducible refine (HO1.out _ HBW.out).mono ?_); rintro e w2 ⟨v2, rfl, hb2, hv2⟩; obtain ⟨p3, c3, k3, rfl, hk3⟩ := hv2.slice; have HB2 := Lib.hid hb2; have HV2 := Lib.hid hv2; clear hb2 hv2)
  have hk0 : 0 < k3 := Nat.pos_of_ne_zero fun h => q.den_nz (hk3.1 h)
  have hki : ((k3 : Int) == 0) = false := beq_false_of_ne (by omega)
  have d0 : w2.cell? ⟨Xa, 0, none⟩ = some (.bool s) := (heap_cell (HB2.out.heap HXa.out) 0).trans rfl
  have d1 : w2.cell? ⟨Xa, 1, none⟩ = some (.slice p1 k1 c1) := (heap_cell (HB2.out.heap HXa.out) 1).trans rfl
  clear hk3 a2
  go_wp2_with (go_at_call 127; (with_reducible refine (HO2.out _ (HBW.out.trans HB2.out)).mono ?_); rintro e w3 ⟨v3, rfl, hb3, hv3⟩; obtain ⟨p5, k5, e5, rfl, hu5⟩ := hv3.slice; have HU5 := Lib.hid hu5; have HV3 := Lib.hid (HV2.out.bel hb3); have HB3 := Lib.hid (HB2.out.trans hb3); rw [HS.out]; have hhXR := (HB3.out).heap HXR.out; have HHXR := Lib.hid hhXR; have dXR0 : w3.cell? ⟨XR, 0, none⟩ = some (.bool false) := (heap_cell hhXR 0).trans rfl; have fXR0 : w3.frozen? ⟨XR, 0, none⟩ = false := heap_frozen hhXR 0; have dXR1 : w3.cell? ⟨XR, 1, none⟩ = some (.slice none 0 0) := (heap_cell hhXR 1).trans rfl; have fXR1 : w3.frozen? ⟨XR, 1, none⟩ = false := heap_frozen hhXR 1; have dXR2 : w3.cell? ⟨XR, 2, none⟩ = some (.slice none 0 0) := (heap_cell hhXR 2).trans rfl; have fXR2 : w3.frozen? ⟨XR, 2, none⟩ = false := heap_frozen hhXR 2; clear hhXR; clear hb3 hv3 hu5)
  obtain ⟨kb, kp, kh⟩ := finAll (vs := [.bool s, .slice p5 k5 e5, .slice p3 k3 c3]) (HBW.out.trans HB3.out) HHXR.out rfl HGEXR.out (Φ := fun W2 => RC W2 (.agg #[.bool s, .slice p5 k5 e5, .slice p3 k3 c3]) q) (fun W2 ho => ⟨_, _, by rw [HS.out], HU5.out.only ho HHXR.out (noInt_rat _ _ _ _ _ _ _), HV3.out.only ho HHXR.out (noInt_rat _ _ _ _ _ _ _)⟩)
  have kk0 : (setAll w3 XR 0 [.bool s, .slice p5 k5 e5, .slice p3 k3 c3]).cell? ⟨XR, 0, none⟩ = some (.bool s) := (heap_cell kh 0).trans rfl
  have kk1 : (setAll w3 XR 0 [.bool s, .slice p5 k5 e5, .slice p3 k3 c3]).cell? ⟨XR, 1, none⟩ = some (.slice p5 k5 e5) := (heap_cell kh 1).trans rfl
  have kk2 : (setAll w3 XR 0 [.bool s, .slice p5 k5 e5, .slice p3 k3 c3]).cell? ⟨XR, 2, none⟩ = some (.slice p3 k3 c3) := (heap_cell kh 2).trans rfl
  simp only [setAll] at kb kp kk0 kk1 kk2
  exact bodyPost_ret (v := .agg #[.bool s, .slice p5 k5 e5, .slice p3 k3 c3]) (by simp [results, Tryz.results79, go_sem, kk0, kk1, kk2]) rfl ⟨_, rfl, kb, kp⟩
end Go.Proofs.YtafmfnpjhhaikaaGreatDoor
