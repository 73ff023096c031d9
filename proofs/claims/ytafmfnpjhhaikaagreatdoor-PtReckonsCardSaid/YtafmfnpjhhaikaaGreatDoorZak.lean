/-
  rat: the list of what is made of two good fractions.
-/
import Derived.Test.YtafmfnpjhhaikaaGreatDoorZaj
import Derived.Laws.EntriesVeiled
namespace Go.Proofs.YtafmfnpjhhaikaaGreatDoor
open Go.RowKit Go.Shelf
def addF : Value := .func (.func 180) #[] #[]
def mulF : Value := .func (.func 182) #[] #[]
def subF (X : Nat) : Value := .func (.func 181) #[] #[.pointer (some ⟨X, 0, none⟩)]
/-- The list is there. -/
def OpsList (b : Nat) (c0 c1 c2 : Value) (w : World) : Prop := ∃ L X, w.heap[b]? = some (.cells #[c0, c1, c2, .slice (some ⟨L, 0, none⟩) 3 3] 179 (0, 0)) ∧ w.heap[L]? = some (.cells #[addF, subF X, mulF] 69 (0, 0)) ∧ w.heap[X]? = some (.cells #[addF] 69 (0, 0))
set_option maxHeartbeats 2000000 in
set_option maxRecDepth 100000 in
theorem opsFill_any (b : Nat) (c0 c1 c2 c3 : Value) (w : World) (hb : w.heap[b]? = some (.cells #[c0, c1, c2, c3] 179 (0, 0))) :
    Calls Tryz.prog 146 #[.pointer (some ⟨b, 0, none⟩)] w fun e w' => e = .returned (.tuple #[]) ∧ OpsList b c0 c1 c2 w' ∧ w.grownBy w' (some b) := by
  have q3 : w.cell? ⟨b, 3, none⟩ = some c3 := (heap_cell hb 3).trans rfl
  have f3 : w.frozen? ⟨b, 3, none⟩ = false := heap_frozen hb 3
  have hlt := heap_lt hb
  have HB := Lib.hid hb
  clear hb
  have hmf : ∀ (fn : Fn) (first cap : Array Value) (w : World), (Instr.makeFunc fn first cap).run Tryz.prog w = .ok (.func fn first cap) w := fun _ _ _ _ => rfl
  go_enter Tryz.func146, Tryz.ntmps146
  go_wp2
  go_end0
  have hs : (w.setCell ⟨b, 3, none⟩ (.slice (some ⟨w.heap.size + 1, 0, none⟩) 3 3)).heap.size = w.heap.size := by simp [World.setCell]
  have h4 : (w.setCell ⟨b, 3, none⟩ (.slice (some ⟨w.heap.size + 1, 0, none⟩) 3 3)).heap[b]? = some (.cells #[c0, c1, c2, .slice (some ⟨w.heap.size + 1, 0, none⟩) 3 3] 179 (0, 0)) := by
    simp [World.setCell, Array.getElem?_modify, HB.out]
  refine ⟨rfl, ⟨w.heap.size + 1, w.heap.size, heap_push_of (heap_push_of h4 _) _, alloc_heap (by rw [World.size_alloc, hs]), heap_push_of (alloc_heap hs) _⟩, ?_⟩
  refine grown_trans (grown_trans ?_ (grown_alloc _ _ _)) (grown_alloc _ _ _)
  refine ⟨rfl, rfl, rfl, Nat.le_of_eq hs.symm, fun k _ hne => ?_⟩
  have : b ≠ k := fun e => hne (by rw [e])
  simp [World.setCell, Array.getElem?_modify, this]
set_option maxHeartbeats 2000000 in
set_option maxRecDepth 100000 in
theorem mk_over {w : World} {a : Value} {q : Rat} (ha : RC w a q) : Calls Tryz.prog 93 #[a] w (Makes w fun v w' => ZC w' v (q.den : Int)) := by
  obtain ⟨p1, k1, c1, p2, k2, c2, rfl, -, hd⟩ := ha.slice
  have HD := Lib.hid hd
  obtain ⟨s, hs⟩ : ∃ s, decide (q.num < 0) = s := ⟨_, rfl⟩
  rw [hs]
  clear hd ha hs
  go_enter Tryz.func93, Tryz.ntmps93
  go_upto_region 1 with fail
  obtain ⟨hX1, hX2, hbw⟩ := boxes2 w (.cells #[.bool s, .slice p1 k1 c1, .slice p2 k2 c2] 26) (.cells #[.bool false, .slice none 0 0] 24)
  obtain ⟨W, hW⟩ : ∃ W, (w.alloc (.cells #[.bool s, .slice p1 k1 c1, .slice p2 k2 c2] 26)).alloc (.cells #[.bool false, .slice none 0 0] 24) = W := ⟨_, rfl⟩
  rw [hW] at hX1 hX2 hbw ⊢
  obtain ⟨X1, eX1⟩ : ∃ X, w.heap.size = X := ⟨_, rfl⟩
  obtain ⟨X2, eX2⟩ : ∃ X, X1 + 1 = X := ⟨_, rfl⟩
  rw [eX1, eX2]
  rw [eX1] at hX1 hX2
  rw [eX2] at hX2
  have HX1 := Lib.hid hX1
  have HX2 := Lib.hid hX2
  have HBW := Lib.hid hbw
  have HGEX1 : Hid (w.heap.size ≤ X1) := by unfold Hid; omega
  have HGEX2 : Hid (w.heap.size ≤ X2) := by unfold Hid; omega
  have HLT : Hid (X1 < X2) := by unfold Hid; omega
  clear hW hbw hX1 hX2 eX1 eX2
  have d2 : W.cell? ⟨X1, 2, none⟩ = some (.slice p2 k2 c2) := (heap_cell HX1.out 2).trans rfl
  have hhX2 := ((Bel.refl W)).heap HX2.out
  have HHX2 := Lib.hid hhX2
  have dX20 : W.cell? ⟨X2, 0, none⟩ = some (.bool false) := (heap_cell hhX2 0).trans rfl
  have fX20 : W.frozen? ⟨X2, 0, none⟩ = false := heap_frozen hhX2 0
  have dX21 : W.cell? ⟨X2, 1, none⟩ = some (.slice none 0 0) := (heap_cell hhX2 1).trans rfl
  have fX21 : W.frozen? ⟨X2, 1, none⟩ = false := heap_frozen hhX2 1
  clear hhX2
  go_wp2
  obtain ⟨kb, kp, kh⟩ := finAll (vs := [.bool false, .slice p2 k2 c2]) (HBW.out) HHX2.out rfl HGEX2.out (Φ := fun W2 => ZC W2 (.agg #[.bool false, .slice p2 k2 c2]) (q.den : Int)) (fun W2 ho => ⟨_, by rw [decide_eq_false (by omega)], by rw [Int.natAbs_natCast]; exact (HD.out.bel HBW.out).only ho HHX2.out (noInt_int _ _ _ _)⟩)
  have kk0 : (setAll W X2 0 [.bool false, .slice p2 k2 c2]).cell? ⟨X2, 0, none⟩ = some (.bool false) := (heap_cell kh 0).trans rfl
  have kk1 : (setAll W X2 0 [.bool false, .slice p2 k2 c2]).cell? ⟨X2, 1, none⟩ = some (.slice p2 k2 c2) := (heap_cell kh 1).trans rfl
  simp only [setAll] at kb kp kk0 kk1
  exact bodyPost_ret (v := .agg #[.bool false, .slice p2 k2 c2]) (by simp [results, Tryz.results93, go_sem, kk0, kk1]) rfl ⟨_, rfl, kb, kp⟩
theorem mul_fit {a b i j : Nat} (ha : a < B64 ^ i) (hb : b < B64 ^ j) (h : i + j ≤ LimK) : Fit (a * b) := fit_of (mul_lt ha hb) (by unfold LimK at h; omega)
theorem RC.num {w : World} {v : Value} {q : Rat} (h : RC w v q) : ∃ u d, v = .agg #[.bool (decide (q.num < 0)), u, d] ∧ ZC w (.agg #[.bool (decide (q.num < 0)), u]) q.num ∧ NC w d q.den := by
  obtain ⟨u, d, rfl, hu, hd⟩ := h
  exact ⟨u, d, rfl, ⟨u, rfl, hu⟩, hd⟩
theorem natAbs_mul_lt {x : Int} {n i j : Nat} (hx : x.natAbs < B64 ^ i) (hn : n < B64 ^ j) : (x * (n : Int)).natAbs < B64 ^ (i + j) := by
  rw [Int.natAbs_mul, Int.natAbs_natCast]
  exact mul_lt hx hn
theorem natAbs_add_lt {x y : Int} {i : Nat} (hx : x.natAbs < B64 ^ i) (hy : y.natAbs < B64 ^ i) : (x + y).natAbs < B64 ^ (i + 1) := by
  have h1 : (x + y).natAbs ≤ x.natAbs + y.natAbs := Int.natAbs_add_le x y
  have h2 : 2 ≤ B64 := b64_two
  rw [Nat.pow_succ]
  have h3 : B64 ^ i * 2 ≤ B64 ^ i * B64 := Nat.mul_le_mul_left _ h2
  omega
set_option maxHeartbeats 4000000 in
set_option maxRecDepth 100000 in
theorem mk_add1 {w : World} {a b : Value} {x y : Rat} {i j : Nat} (ha : RC w a x) (hb : RC w b y) (hx : Sz i x) (hy : Sz j y) (hl : i + j < LimK) : Calls Tryz.prog 180 #[a, b] w (Makes w fun v w' => RC w' v (x + y)) := by
  have HOX := Lib.hid (fun X (hX : Bel w X) => mk_over (ha.bel hX))
  have HOY := Lib.hid (fun X (hX : Bel w X) => mk_over (hb.bel hX))
  obtain ⟨p1, k1, c1, p2, k2, c2, rfl, hu1, hd1⟩ := ha.slice
  obtain ⟨p3, k3, c3, p4, k4, c4, rfl, hu2, hd2⟩ := hb.slice
  have fx := hx.fit (by omega)
  have fy := hy.fit (by omega)
  have e1 : (x.num * (y.den : Int)).natAbs < B64 ^ (i + j) := natAbs_mul_lt hx.1 hy.2
  have e2 : (y.num * (x.den : Int)).natAbs < B64 ^ (i + j) := by rw [Nat.add_comm]; exact natAbs_mul_lt hy.1 hx.2
  have e3 := natAbs_add_lt e1 e2
  have e4 : Fit (x.den * y.den) := mul_fit hx.2 hy.2 (by omega)
  have hn0 : x.den * y.den ≠ 0 := Nat.mul_ne_zero x.den_nz y.den_nz
  have lk : i + j + 1 < 400000000 := by unfold LimK at hl; omega
  have HM1 : Hid (∀ X (_ : Bel w X) v, ZC X v (y.den : Int) → _) := fun X hX v hv => mk_zmul (w := X) (ZC.zi ⟨_, rfl, hu1.bel hX⟩ fx.1) (hv.zi (by rw [Int.natAbs_natCast]; exact fy.2)) (fit_of e1 (by omega))
  have HM2 : Hid (∀ X (_ : Bel w X) v, ZC X v (x.den : Int) → _) := fun X hX v hv => mk_zmul (w := X) (ZC.zi ⟨_, rfl, hu2.bel hX⟩ fy.1) (hv.zi (by rw [Int.natAbs_natCast]; exact fx.2)) (fit_of e2 (by omega))
  have HA : Hid (∀ X u v, ZC X u (x.num * (y.den : Int)) → ZC X v (y.num * (x.den : Int)) → _) := fun X u v hu hv => mk_zadd (w := X) (hu.zi (fit_of e1 (by omega))) (hv.zi (fit_of e2 (by omega))) (fit_of e3 (by omega))
  have HN := Lib.hid (fun X (hX : Bel w X) => mk_mul ((hd1.bel hX).ni' fx.2) ((hd2.bel hX).ni' fy.2))
  have HR : Hid (∀ X u v, ZC X u (x.num * (y.den : Int) + y.num * (x.den : Int)) → NC X v (x.den * y.den) → _) := fun X u v hu hv => mk_rmade (w := X) (hu.zi (fit_of e3 (by omega))) (hv.ni' e4) hn0
  rw [← rat_add] at HR
  obtain ⟨R, hR⟩ : ∃ R, x + y = R := ⟨_, rfl⟩
  obtain ⟨Z1, hZ1⟩ : ∃ Z, x.num * (y.den : Int) = Z := ⟨_, rfl⟩
  obtain ⟨Z2, hZ2⟩ : ∃ Z, y.num * (x.den : Int) = Z := ⟨_, rfl⟩
  rw [hZ1] at HM1 HA HR
  rw [hZ2] at HM2 HA HR
  obtain ⟨Z3, hZ3⟩ : ∃ Z, Z1 + Z2 = Z := ⟨_, rfl⟩
  rw [hZ3] at HA HR
  rw [hR] at HR ⊢
  obtain ⟨s1, hs1⟩ : ∃ s, decide (x.num < 0) = s := ⟨_, rfl⟩
  obtain ⟨s2, hs2⟩ : ∃ s, decide (y.num < 0) = s := ⟨_, rfl⟩
  rw [hs1] at HOX HM1 ⊢
  rw [hs2] at HOY HM2 ⊢
  clear ha hb hx hy hl hu1 hd1 hu2 hd2 fx fy e1 e2 e3 e4 hn0 lk hR hZ1 hZ2 hZ3 hs1 hs2
  go_enter Tryz.func180, Tryz.ntmps180
  go_upto_region 1 with fail
  obtain ⟨hX2, hX3, hX4, hbw⟩ := boxes3 w (.cells #[.bool s1, .slice p1 k1 c1, .slice p2 k2 c2] 26) (.cells #[.bool s2, .slice p3 k3 c3, .slice p4 k4 c4] 26) (.cells #[.bool false, .slice none 0 0, .slice none 0 0] 26)
  obtain ⟨W, hW⟩ : ∃ W, ((w.alloc (.cells #[.bool s1, .slice p1 k1 c1, .slice p2 k2 c2] 26)).alloc (.cells #[.bool s2, .slice p3 k3 c3, .slice p4 k4 c4] 26)).alloc (.cells #[.bool false, .slice none 0 0, .slice none 0 0] 26) = W := ⟨_, rfl⟩
  rw [hW] at hX2 hX3 hX4 hbw ⊢
  obtain ⟨X2, eX2⟩ : ∃ X, w.heap.size = X := ⟨_, rfl⟩
  obtain ⟨X3, eX3⟩ : ∃ X, X2 + 1 = X := ⟨_, rfl⟩
  obtain ⟨X4, eX4⟩ : ∃ X, X3 + 1 = X := ⟨_, rfl⟩
  rw [eX2, eX3, eX4]
  rw [eX2] at hX2 hX3 hX4
  rw [eX3] at hX3 hX4
  rw [eX4] at hX4
  have HX2 := Lib.hid hX2
  have HX3 := Lib.hid hX3
  have HX4 := Lib.hid hX4
  have HBW := Lib.hid hbw
  have HGEX2 : Hid (w.heap.size ≤ X2) := by unfold Hid; omega
  have HGEX3 : Hid (w.heap.size ≤ X3) := by unfold Hid; omega
  have HGEX4 : Hid (w.heap.size ≤ X4) := by unfold Hid; omega
  have HLT : Hid (X2 < X3 ∧ X3 < X4) := by unfold Hid; omega
  clear hW hbw hX2 hX3 hX4 eX2 eX3 eX4
  refine region_flow 17 [[], [0], [], [2], [1, 3], [], [5], [], [7], [6, 8], [4, 9], [], [11], [], [13], [12, 14], [10, 15]] [.is (.pointer (some ⟨X2, 0, none⟩)), .is (.agg #[.bool s1, .slice p1 k1 c1]), .is (.agg #[.bool s2, .slice p3 k3 c3, .slice p4 k4 c4]), .has (fun v w => ZC w v (y.den : Int)), .has (fun v w => ZC w v Z1), .is (.pointer (some ⟨X3, 0, none⟩)), .is (.agg #[.bool s2, .slice p3 k3 c3]), .is (.agg #[.bool s1, .slice p1 k1 c1, .slice p2 k2 c2]), .has (fun v w => ZC w v (x.den : Int)), .has (fun v w => ZC w v Z2), .has (fun v w => ZC w v Z3), .is (.pointer (some ⟨X2, 2, none⟩)), .is (.slice p2 k2 c2), .is (.pointer (some ⟨X3, 2, none⟩)), .is (.slice p4 k4 c4), .has (fun v w => NC w v (x.den * y.den)), .has (fun v w => RC w v R)] (by kernel_rfl) (by kernel_rfl) rfl (by simp only [Steady]; exact ⟨fun _ _ _ h hb => h.bel hb, fun _ _ _ h hb => h.bel hb, fun _ _ _ h hb => h.bel hb, fun _ _ _ h hb => h.bel hb, fun _ _ _ h hb => h.bel hb, fun _ _ _ h hb => h.bel hb, fun _ _ _ h hb => h.bel hb, trivial⟩) ?_
  simp only [List.take_succ_cons, List.take_zero, List.drop_succ_cons, List.drop_zero]
  refine fV (by rfl) (by intro w1 hw1 hk1; go_simp) ?_
  simp only [Act.put, sA, sB, sC]
  refine fV (by rfl) (by intro w1 hw1 hk1; obtain ⟨c0, c1, -⟩ := boxc3 (hw1.heap HX2.out); go_simp) ?_
  simp only [Act.put, sA, sB, sC]
  refine fV (by rfl) (by intro w1 hw1 hk1; obtain ⟨c0, c1, c2⟩ := boxc3 (hw1.heap HX3.out); go_simp) ?_
  simp only [Act.put, sA, sB, sC]
  refine fH (by rfl) (by intro w1 hw1 hk1; exact HOY.out _ (HBW.out.trans hw1)) (by intro; go_simp) (fun v3 => ?_)
  simp only [Act.put, sA, sB, sC]
  refine fH (by rfl) (by intro w1 hw1 hk1; obtain ⟨g3, -⟩ := hk1; exact HM1.out _ (HBW.out.trans hw1) _ g3) (by intro; go_simp) (fun v4 => ?_)
  simp only [Act.put, sA, sB, sC]
  refine fV (by rfl) (by intro w1 hw1 hk1; go_simp) ?_
  simp only [Act.put, sA, sB, sC]
  refine fV (by rfl) (by intro w1 hw1 hk1; obtain ⟨c0, c1, -⟩ := boxc3 (hw1.heap HX3.out); go_simp) ?_
  simp only [Act.put, sA, sB, sC]
  refine fV (by rfl) (by intro w1 hw1 hk1; obtain ⟨c0, c1, c2⟩ := boxc3 (hw1.heap HX2.out); go_simp) ?_
  simp only [Act.put, sA, sB, sC]
  refine fH (by rfl) (by intro w1 hw1 hk1; exact HOX.out _ (HBW.out.trans hw1)) (by intro; go_simp) (fun v8 => ?_)
  simp only [Act.put, sA, sB, sC]
  refine fH (by rfl) (by intro w1 hw1 hk1; obtain ⟨g8, -, -, -⟩ := hk1; exact HM2.out _ (HBW.out.trans hw1) _ g8) (by intro; go_simp) (fun v9 => ?_)
  simp only [Act.put, sA, sB, sC]
  refine fH (by rfl) (by intro w1 hw1 hk1; obtain ⟨g9, -, g4, -, -⟩ := hk1; exact HA.out _ _ _ g4 g9) (by intro; go_simp) (fun v10 => ?_)
  simp only [Act.put, sA, sB, sC]
  refine fV (by rfl) (by intro w1 hw1 hk1; go_simp) ?_
  simp only [Act.put, sA, sB, sC]
  refine fV (by rfl) (by intro w1 hw1 hk1; have c2 : w1.cell? ⟨X2, 2, none⟩ = some (.slice p2 k2 c2) := (heap_cell (hw1.heap HX2.out) 2).trans rfl; go_simp) ?_
  simp only [Act.put, sA, sB, sC]
  refine fV (by rfl) (by intro w1 hw1 hk1; go_simp) ?_
  simp only [Act.put, sA, sB, sC]
  refine fV (by rfl) (by intro w1 hw1 hk1; have c2 : w1.cell? ⟨X3, 2, none⟩ = some (.slice p4 k4 c4) := (heap_cell (hw1.heap HX3.out) 2).trans rfl; go_simp) ?_
  simp only [Act.put, sA, sB, sC]
  refine fH (by rfl) (by intro w1 hw1 hk1; exact HN.out _ (HBW.out.trans hw1)) (by intro; go_simp) (fun v15 => ?_)
  simp only [Act.put, sA, sB, sC]
  refine fH (by rfl) (by intro w1 hw1 hk1; obtain ⟨g15, g10, -, -, -, -, -⟩ := hk1; exact HR.out _ _ _ g10 g15) (by intro; go_simp) (fun v16 => ?_)
  simp only [Act.put, sA, sB, sC]
  intro w1 hw1 hk1
  obtain ⟨g16, g15, g10, g9, g8, g4, g3, -⟩ := hk1
  obtain ⟨p6, k6, c6, p7, k7, c7, rfl, -⟩ := g16.slice
  have HV := Lib.hid g16
  have HB3 := Lib.hid hw1
  have hhX4 := (hw1).heap HX4.out
  have HHX4 := Lib.hid hhX4
  have dX40 : w1.cell? ⟨X4, 0, none⟩ = some (.bool false) := (heap_cell hhX4 0).trans rfl
  have fX40 : w1.frozen? ⟨X4, 0, none⟩ = false := heap_frozen hhX4 0
  have dX41 : w1.cell? ⟨X4, 1, none⟩ = some (.slice none 0 0) := (heap_cell hhX4 1).trans rfl
  have fX41 : w1.frozen? ⟨X4, 1, none⟩ = false := heap_frozen hhX4 1
  have dX42 : w1.cell? ⟨X4, 2, none⟩ = some (.slice none 0 0) := (heap_cell hhX4 2).trans rfl
  have fX42 : w1.frozen? ⟨X4, 2, none⟩ = false := heap_frozen hhX4 2
  clear hhX4
  clear hw1 g16 g15 g10 g9 g8 g4 g3
  go_wp2
  obtain ⟨kb, kp, kh⟩ := finAll (vs := [.bool (decide (R.num < 0)), .slice p6 k6 c6, .slice p7 k7 c7]) (HBW.out.trans HB3.out) HHX4.out rfl HGEX4.out (Φ := fun W2 => RC W2 (.agg #[.bool (decide (R.num < 0)), .slice p6 k6 c6, .slice p7 k7 c7]) R) (fun W2 ho => HV.out.only ho HHX4.out (noInt_rat _ _ _ _ _ _ _))
  have kk0 : (setAll w1 X4 0 [.bool (decide (R.num < 0)), .slice p6 k6 c6, .slice p7 k7 c7]).cell? ⟨X4, 0, none⟩ = some (.bool (decide (R.num < 0))) := (heap_cell kh 0).trans rfl
  have kk1 : (setAll w1 X4 0 [.bool (decide (R.num < 0)), .slice p6 k6 c6, .slice p7 k7 c7]).cell? ⟨X4, 1, none⟩ = some (.slice p6 k6 c6) := (heap_cell kh 1).trans rfl
  have kk2 : (setAll w1 X4 0 [.bool (decide (R.num < 0)), .slice p6 k6 c6, .slice p7 k7 c7]).cell? ⟨X4, 2, none⟩ = some (.slice p7 k7 c7) := (heap_cell kh 2).trans rfl
  simp only [setAll] at kb kp kk0 kk1 kk2
  exact bodyPost_ret (v := .agg #[.bool (decide (R.num < 0)), .slice p6 k6 c6, .slice p7 k7 c7]) (by simp [results, Tryz.results180, go_sem, kk0, kk1, kk2]) rfl ⟨_, rfl, kb, kp⟩
end Go.Proofs.YtafmfnpjhhaikaaGreatDoor
