/-
  gessokeep: Small, SmallPt, SmallLine (printed by gen_kea.py).
-/
import Derived.Test.YtafmfnpjhhaikaaGreatDoorZan
namespace Go.Proofs.YtafmfnpjhhaikaaGreatDoor
open Go.RowKit Go.Shelf
set_option maxHeartbeats 4000000 in
set_option maxRecDepth 100000 in
theorem keepSmall_any (sa1 : Bool) (pa1 : Option Addr) (ka1 ca1 : Nat) (qa1 : Option Addr) (ja1 da1 : Nat) (m : Nat) (w : World) : Calls Tryz.prog 13 #[.agg #[.bool sa1, .slice pa1 ka1 ca1, .slice qa1 ja1 da1], .int .i64 (m : Nat)] w (Makes w fun v _ => v = .bool (decide (ka1 ≤ m ∧ ja1 ≤ m))) := by
  by_cases h1 : ka1 ≤ m
  · have HK1 := Lib.hid h1
    by_cases h2 : ja1 ≤ m
    · have HK2 := Lib.hid h2
      rw [decide_eq_true (show ka1 ≤ m ∧ ja1 ≤ m from ⟨h1, h2⟩)]
      clear h1 h2
      go_enter Tryz.func13, Tryz.ntmps13
      go_upto_region 1 with fail
      obtain ⟨hXa, hbw⟩ := boxes1 w (.cells #[.bool sa1, .slice pa1 ka1 ca1, .slice qa1 ja1 da1] 26)
      obtain ⟨W, hW⟩ : ∃ W, w.alloc (.cells #[.bool sa1, .slice pa1 ka1 ca1, .slice qa1 ja1 da1] 26) = W := ⟨_, rfl⟩
      rw [hW] at hXa hbw ⊢
      obtain ⟨Xa, eXa⟩ : ∃ X, w.heap.size = X := ⟨_, rfl⟩
      rw [eXa]
      rw [eXa] at hXa
      have HXa := Lib.hid hXa
      have HBW := Lib.hid hbw
      have HGEXa : Hid (w.heap.size ≤ Xa) := by unfold Hid; omega
      clear hW hbw hXa eXa
      refine line_region 13 [[], [0], [1], [2], [], [3, 4], [5], [6], [6, 7], [6, 8], [6], [6, 9, 10], [6, 11]] [.is (.pointer (some ⟨Xa, 0, none⟩)), .is (.pointer (some ⟨Xa, 1, none⟩)), .is (.slice pa1 ka1 ca1), .is (.int .i64 (ka1 : Nat)), .is (.int .i64 (m : Nat)), .is (.bool true), .is (.bool true), .is (.pointer (some ⟨Xa, 2, none⟩)), .is (.slice qa1 ja1 da1), .is (.int .i64 (ja1 : Nat)), .is (.int .i64 (m : Nat)), .is (.bool true), .is (.bool true)] rfl rfl (by decide) (by simp only [Steady]) ?_
      simp only [List.take_succ_cons, List.take_zero, List.drop_succ_cons, List.drop_zero]
      refine fV (by rfl) (by intro w1 hw1 hk1; go_simp) ?_
      simp only [Act.put, sA, sB, sC]
      refine fV (by rfl) (by intro w1 hw1 hk1; go_simp) ?_
      simp only [Act.put, sA, sB, sC]
      refine fV (by rfl) (by intro w1 hw1 hk1; have c1 : w1.cell? ⟨Xa, 1, none⟩ = some (.slice pa1 ka1 ca1) := (heap_cell (hw1.heap HXa.out) 1).trans rfl; go_simp) ?_
      simp only [Act.put, sA, sB, sC]
      refine fV (by rfl) (by intro w1 hw1 hk1; go_simp) ?_
      simp only [Act.put, sA, sB, sC]
      refine fV (by rfl) (by intro w1 hw1 hk1; go_simp) ?_
      simp only [Act.put, sA, sB, sC]
      refine flow_is (by intro w1 hw1 hk1; refine want (by rfl) (gives_val ?_); go_simp; (first | (have := HK1.out; omega) | (simp; have := HK1.out; omega) | (simp [HK1.out]))) ?_
      simp only [Act.put, sA, sB, sC]
      refine fV (by rfl) (by intro w1 hw1 hk1; go_simp) ?_
      simp only [Act.put, sA, sB, sC]
      refine fV (by rfl) (by intro w1 hw1 hk1; go_simp) ?_
      simp only [Act.put, sA, sB, sC]
      refine fV (by rfl) (by intro w1 hw1 hk1; have c2 : w1.cell? ⟨Xa, 2, none⟩ = some (.slice qa1 ja1 da1) := (heap_cell (hw1.heap HXa.out) 2).trans rfl; go_simp) ?_
      simp only [Act.put, sA, sB, sC]
      refine fV (by rfl) (by intro w1 hw1 hk1; go_simp) ?_
      simp only [Act.put, sA, sB, sC]
      refine fV (by rfl) (by intro w1 hw1 hk1; go_simp) ?_
      simp only [Act.put, sA, sB, sC]
      refine flow_is (by intro w1 hw1 hk1; refine want (by rfl) (gives_val ?_); go_simp; (first | (have := HK2.out; omega) | (simp; have := HK2.out; omega) | (simp [HK2.out]))) ?_
      simp only [Act.put, sA, sB, sC]
      refine fV (by rfl) (by intro w1 hw1 hk1; go_simp) ?_
      simp only [Act.put, sA, sB, sC]
      intro w1 hw1 hk1
      have HB3 := Lib.hid hw1
      clear hw1
      go_wp2
      go_ret
      exact ⟨_, rfl, HBW.out.trans HB3.out, rfl⟩
    · have HK2 := Lib.hid h2
      rw [decide_eq_false (show ¬ (ka1 ≤ m ∧ ja1 ≤ m) from fun h => h2 h.2)]
      clear h1 h2
      go_enter Tryz.func13, Tryz.ntmps13
      go_upto_region 1 with fail
      obtain ⟨hXa, hbw⟩ := boxes1 w (.cells #[.bool sa1, .slice pa1 ka1 ca1, .slice qa1 ja1 da1] 26)
      obtain ⟨W, hW⟩ : ∃ W, w.alloc (.cells #[.bool sa1, .slice pa1 ka1 ca1, .slice qa1 ja1 da1] 26) = W := ⟨_, rfl⟩
      rw [hW] at hXa hbw ⊢
      obtain ⟨Xa, eXa⟩ : ∃ X, w.heap.size = X := ⟨_, rfl⟩
      rw [eXa]
      rw [eXa] at hXa
      have HXa := Lib.hid hXa
      have HBW := Lib.hid hbw
      have HGEXa : Hid (w.heap.size ≤ Xa) := by unfold Hid; omega
      clear hW hbw hXa eXa
      refine line_region 13 [[], [0], [1], [2], [], [3, 4], [5], [6], [6, 7], [6, 8], [6], [6, 9, 10], [6, 11]] [.is (.pointer (some ⟨Xa, 0, none⟩)), .is (.pointer (some ⟨Xa, 1, none⟩)), .is (.slice pa1 ka1 ca1), .is (.int .i64 (ka1 : Nat)), .is (.int .i64 (m : Nat)), .is (.bool true), .is (.bool true), .is (.pointer (some ⟨Xa, 2, none⟩)), .is (.slice qa1 ja1 da1), .is (.int .i64 (ja1 : Nat)), .is (.int .i64 (m : Nat)), .is (.bool false), .is (.bool false)] rfl rfl (by decide) (by simp only [Steady]) ?_
      simp only [List.take_succ_cons, List.take_zero, List.drop_succ_cons, List.drop_zero]
      refine fV (by rfl) (by intro w1 hw1 hk1; go_simp) ?_
      simp only [Act.put, sA, sB, sC]
      refine fV (by rfl) (by intro w1 hw1 hk1; go_simp) ?_
      simp only [Act.put, sA, sB, sC]
      refine fV (by rfl) (by intro w1 hw1 hk1; have c1 : w1.cell? ⟨Xa, 1, none⟩ = some (.slice pa1 ka1 ca1) := (heap_cell (hw1.heap HXa.out) 1).trans rfl; go_simp) ?_
      simp only [Act.put, sA, sB, sC]
      refine fV (by rfl) (by intro w1 hw1 hk1; go_simp) ?_
      simp only [Act.put, sA, sB, sC]
      refine fV (by rfl) (by intro w1 hw1 hk1; go_simp) ?_
      simp only [Act.put, sA, sB, sC]
      refine flow_is (by intro w1 hw1 hk1; refine want (by rfl) (gives_val ?_); go_simp; (first | (have := HK1.out; omega) | (simp; have := HK1.out; omega) | (simp [HK1.out]))) ?_
      simp only [Act.put, sA, sB, sC]
      refine fV (by rfl) (by intro w1 hw1 hk1; go_simp) ?_
      simp only [Act.put, sA, sB, sC]
      refine fV (by rfl) (by intro w1 hw1 hk1; go_simp) ?_
      simp only [Act.put, sA, sB, sC]
      refine fV (by rfl) (by intro w1 hw1 hk1; have c2 : w1.cell? ⟨Xa, 2, none⟩ = some (.slice qa1 ja1 da1) := (heap_cell (hw1.heap HXa.out) 2).trans rfl; go_simp) ?_
      simp only [Act.put, sA, sB, sC]
      refine fV (by rfl) (by intro w1 hw1 hk1; go_simp) ?_
      simp only [Act.put, sA, sB, sC]
      refine fV (by rfl) (by intro w1 hw1 hk1; go_simp) ?_
      simp only [Act.put, sA, sB, sC]
      refine flow_is (by intro w1 hw1 hk1; refine want (by rfl) (gives_val ?_); go_simp; (first | (have := HK2.out; omega) | (simp; have := HK2.out; omega) | (simp [HK2.out]))) ?_
      simp only [Act.put, sA, sB, sC]
      refine fV (by rfl) (by intro w1 hw1 hk1; go_simp) ?_
      simp only [Act.put, sA, sB, sC]
      intro w1 hw1 hk1
      have HB3 := Lib.hid hw1
      clear hw1
      go_wp2
      go_ret
      exact ⟨_, rfl, HBW.out.trans HB3.out, rfl⟩
  · have HK1 := Lib.hid h1
    rw [decide_eq_false (show ¬ (ka1 ≤ m ∧ ja1 ≤ m) from fun h => h1 h.1)]
    clear h1
    go_enter Tryz.func13, Tryz.ntmps13
    go_upto_region 1 with fail
    obtain ⟨hXa, hbw⟩ := boxes1 w (.cells #[.bool sa1, .slice pa1 ka1 ca1, .slice qa1 ja1 da1] 26)
    obtain ⟨W, hW⟩ : ∃ W, w.alloc (.cells #[.bool sa1, .slice pa1 ka1 ca1, .slice qa1 ja1 da1] 26) = W := ⟨_, rfl⟩
    rw [hW] at hXa hbw ⊢
    obtain ⟨Xa, eXa⟩ : ∃ X, w.heap.size = X := ⟨_, rfl⟩
    rw [eXa]
    rw [eXa] at hXa
    have HXa := Lib.hid hXa
    have HBW := Lib.hid hbw
    have HGEXa : Hid (w.heap.size ≤ Xa) := by unfold Hid; omega
    clear hW hbw hXa eXa
    refine line_region 13 [[], [0], [1], [2], [], [3, 4], [5], [6], [6, 7], [6, 8], [6], [6, 9, 10], [6, 11]] [.is (.pointer (some ⟨Xa, 0, none⟩)), .is (.pointer (some ⟨Xa, 1, none⟩)), .is (.slice pa1 ka1 ca1), .is (.int .i64 (ka1 : Nat)), .is (.int .i64 (m : Nat)), .is (.bool false), .is (.bool false), .is undef, .is undef, .is undef, .is undef, .is undef, .is (.bool false)] rfl rfl (by decide) (by simp only [Steady]) ?_
    simp only [List.take_succ_cons, List.take_zero, List.drop_succ_cons, List.drop_zero]
    refine fV (by rfl) (by intro w1 hw1 hk1; go_simp) ?_
    simp only [Act.put, sA, sB, sC]
    refine fV (by rfl) (by intro w1 hw1 hk1; go_simp) ?_
    simp only [Act.put, sA, sB, sC]
    refine fV (by rfl) (by intro w1 hw1 hk1; have c1 : w1.cell? ⟨Xa, 1, none⟩ = some (.slice pa1 ka1 ca1) := (heap_cell (hw1.heap HXa.out) 1).trans rfl; go_simp) ?_
    simp only [Act.put, sA, sB, sC]
    refine fV (by rfl) (by intro w1 hw1 hk1; go_simp) ?_
    simp only [Act.put, sA, sB, sC]
    refine fV (by rfl) (by intro w1 hw1 hk1; go_simp) ?_
    simp only [Act.put, sA, sB, sC]
    refine flow_is (by intro w1 hw1 hk1; refine want (by rfl) (gives_val ?_); go_simp; (first | (have := HK1.out; omega) | (simp; have := HK1.out; omega) | (simp [HK1.out]))) ?_
    simp only [Act.put, sA, sB, sC]
    refine fV (by rfl) (by intro w1 hw1 hk1; go_simp) ?_
    simp only [Act.put, sA, sB, sC]
    refine flow_is (fun w1 hw1 hk1 => wantnot (fun h => Bool.noConfusion (show false = true from h)) rfl) ?_
    simp only [Act.put, sA, sB, sC]
    refine flow_is (fun w1 hw1 hk1 => wantnot (fun h => Bool.noConfusion (show false = true from h)) rfl) ?_
    simp only [Act.put, sA, sB, sC]
    refine flow_is (fun w1 hw1 hk1 => wantnot (fun h => Bool.noConfusion (show false = true from h)) rfl) ?_
    simp only [Act.put, sA, sB, sC]
    refine flow_is (fun w1 hw1 hk1 => wantnot (fun h => Bool.noConfusion (show false = true from h)) rfl) ?_
    simp only [Act.put, sA, sB, sC]
    refine flow_is (fun w1 hw1 hk1 => wantnot (fun h => Bool.noConfusion (show false = true from h)) rfl) ?_
    simp only [Act.put, sA, sB, sC]
    refine fV (by rfl) (by intro w1 hw1 hk1; go_simp) ?_
    simp only [Act.put, sA, sB, sC]
    intro w1 hw1 hk1
    have HB3 := Lib.hid hw1
    clear hw1
    go_wp2
    go_ret
    exact ⟨_, rfl, HBW.out.trans HB3.out, rfl⟩
set_option maxHeartbeats 4000000 in
set_option maxRecDepth 100000 in
theorem keepSmallPt_any (sa1 : Bool) (pa1 : Option Addr) (ka1 ca1 : Nat) (qa1 : Option Addr) (ja1 da1 : Nat) (sa2 : Bool) (pa2 : Option Addr) (ka2 ca2 : Nat) (qa2 : Option Addr) (ja2 da2 : Nat) (m : Nat) (w : World) : Calls Tryz.prog 113 #[.agg #[.bool sa1, .slice pa1 ka1 ca1, .slice qa1 ja1 da1, .bool sa2, .slice pa2 ka2 ca2, .slice qa2 ja2 da2], .int .i64 (m : Nat)] w (Makes w fun v _ => v = .bool (decide ((ka1 ≤ m ∧ ja1 ≤ m) ∧ (ka2 ≤ m ∧ ja2 ≤ m)))) := by
  have HS1 := Lib.hid (fun X => keepSmall_any sa1 pa1 ka1 ca1 qa1 ja1 da1 m X)
  have HS2 := Lib.hid (fun X => keepSmall_any sa2 pa2 ka2 ca2 qa2 ja2 da2 m X)
  by_cases h1 : ka1 ≤ m ∧ ja1 ≤ m
  · rw [decide_eq_true h1] at HS1
    by_cases h2 : ka2 ≤ m ∧ ja2 ≤ m
    · rw [decide_eq_true h2] at HS2
      rw [decide_eq_true (show (ka1 ≤ m ∧ ja1 ≤ m) ∧ (ka2 ≤ m ∧ ja2 ≤ m) from ⟨h1, h2⟩)]
      clear h1 h2
      go_enter Tryz.func113, Tryz.ntmps113
      go_upto_region 1 with fail
      obtain ⟨hXa, hbw⟩ := boxes1 w (.cells #[.bool sa1, .slice pa1 ka1 ca1, .slice qa1 ja1 da1, .bool sa2, .slice pa2 ka2 ca2, .slice qa2 ja2 da2] 28)
      obtain ⟨W, hW⟩ : ∃ W, w.alloc (.cells #[.bool sa1, .slice pa1 ka1 ca1, .slice qa1 ja1 da1, .bool sa2, .slice pa2 ka2 ca2, .slice qa2 ja2 da2] 28) = W := ⟨_, rfl⟩
      rw [hW] at hXa hbw ⊢
      obtain ⟨Xa, eXa⟩ : ∃ X, w.heap.size = X := ⟨_, rfl⟩
      rw [eXa]
      rw [eXa] at hXa
      have HXa := Lib.hid hXa
      have HBW := Lib.hid hbw
      have HGEXa : Hid (w.heap.size ≤ Xa) := by unfold Hid; omega
      clear hW hbw hXa eXa
      refine line_region 10 [[], [0], [], [1, 2], [3], [4], [4, 5], [4], [4, 6, 7], [4, 8]] [.is (.pointer (some ⟨Xa, 0, none⟩)), .is (.agg #[.bool sa1, .slice pa1 ka1 ca1, .slice qa1 ja1 da1]), .is (.int .i64 (m : Nat)), .is (.bool true), .is (.bool true), .is (.pointer (some ⟨Xa, 3, none⟩)), .is (.agg #[.bool sa2, .slice pa2 ka2 ca2, .slice qa2 ja2 da2]), .is (.int .i64 (m : Nat)), .is (.bool true), .is (.bool true)] rfl rfl (by decide) (by simp only [Steady]) ?_
      simp only [List.take_succ_cons, List.take_zero, List.drop_succ_cons, List.drop_zero]
      refine fV (by rfl) (by intro w1 hw1 hk1; go_simp) ?_
      simp only [Act.put, sA, sB, sC]
      refine fV (by rfl) (by intro w1 hw1 hk1; obtain ⟨c0, c1, c2, -, -, -⟩ := boxc6 (hw1.heap HXa.out); go_simp) ?_
      simp only [Act.put, sA, sB, sC]
      refine fV (by rfl) (by intro w1 hw1 hk1; go_simp) ?_
      simp only [Act.put, sA, sB, sC]
      refine fC (by rfl) (by intro w1 hw1 hk1; exact HS1.out _) (by intro; go_simp) ?_
      simp only [Act.put, sA, sB, sC]
      refine fV (by rfl) (by intro w1 hw1 hk1; go_simp) ?_
      simp only [Act.put, sA, sB, sC]
      refine fV (by rfl) (by intro w1 hw1 hk1; go_simp) ?_
      simp only [Act.put, sA, sB, sC]
      refine fV (by rfl) (by intro w1 hw1 hk1; obtain ⟨-, -, -, c3, c4, c5⟩ := boxc6 (hw1.heap HXa.out); go_simp) ?_
      simp only [Act.put, sA, sB, sC]
      refine fV (by rfl) (by intro w1 hw1 hk1; go_simp) ?_
      simp only [Act.put, sA, sB, sC]
      refine fC (by rfl) (by intro w1 hw1 hk1; exact HS2.out _) (by intro; go_simp) ?_
      simp only [Act.put, sA, sB, sC]
      refine fV (by rfl) (by intro w1 hw1 hk1; go_simp) ?_
      simp only [Act.put, sA, sB, sC]
      intro w1 hw1 hk1
      have HB3 := Lib.hid hw1
      clear hw1
      go_wp2
      go_ret
      exact ⟨_, rfl, HBW.out.trans HB3.out, rfl⟩
    · rw [decide_eq_false h2] at HS2
      rw [decide_eq_false (show ¬ ((ka1 ≤ m ∧ ja1 ≤ m) ∧ (ka2 ≤ m ∧ ja2 ≤ m)) from fun h => h2 h.2)]
      clear h1 h2
      go_enter Tryz.func113, Tryz.ntmps113
      go_upto_region 1 with fail
      obtain ⟨hXa, hbw⟩ := boxes1 w (.cells #[.bool sa1, .slice pa1 ka1 ca1, .slice qa1 ja1 da1, .bool sa2, .slice pa2 ka2 ca2, .slice qa2 ja2 da2] 28)
      obtain ⟨W, hW⟩ : ∃ W, w.alloc (.cells #[.bool sa1, .slice pa1 ka1 ca1, .slice qa1 ja1 da1, .bool sa2, .slice pa2 ka2 ca2, .slice qa2 ja2 da2] 28) = W := ⟨_, rfl⟩
      rw [hW] at hXa hbw ⊢
      obtain ⟨Xa, eXa⟩ : ∃ X, w.heap.size = X := ⟨_, rfl⟩
      rw [eXa]
      rw [eXa] at hXa
      have HXa := Lib.hid hXa
      have HBW := Lib.hid hbw
      have HGEXa : Hid (w.heap.size ≤ Xa) := by unfold Hid; omega
      clear hW hbw hXa eXa
      refine line_region 10 [[], [0], [], [1, 2], [3], [4], [4, 5], [4], [4, 6, 7], [4, 8]] [.is (.pointer (some ⟨Xa, 0, none⟩)), .is (.agg #[.bool sa1, .slice pa1 ka1 ca1, .slice qa1 ja1 da1]), .is (.int .i64 (m : Nat)), .is (.bool true), .is (.bool true), .is (.pointer (some ⟨Xa, 3, none⟩)), .is (.agg #[.bool sa2, .slice pa2 ka2 ca2, .slice qa2 ja2 da2]), .is (.int .i64 (m : Nat)), .is (.bool false), .is (.bool false)] rfl rfl (by decide) (by simp only [Steady]) ?_
      simp only [List.take_succ_cons, List.take_zero, List.drop_succ_cons, List.drop_zero]
      refine fV (by rfl) (by intro w1 hw1 hk1; go_simp) ?_
      simp only [Act.put, sA, sB, sC]
      refine fV (by rfl) (by intro w1 hw1 hk1; obtain ⟨c0, c1, c2, -, -, -⟩ := boxc6 (hw1.heap HXa.out); go_simp) ?_
      simp only [Act.put, sA, sB, sC]
      refine fV (by rfl) (by intro w1 hw1 hk1; go_simp) ?_
      simp only [Act.put, sA, sB, sC]
      refine fC (by rfl) (by intro w1 hw1 hk1; exact HS1.out _) (by intro; go_simp) ?_
      simp only [Act.put, sA, sB, sC]
      refine fV (by rfl) (by intro w1 hw1 hk1; go_simp) ?_
      simp only [Act.put, sA, sB, sC]
      refine fV (by rfl) (by intro w1 hw1 hk1; go_simp) ?_
      simp only [Act.put, sA, sB, sC]
      refine fV (by rfl) (by intro w1 hw1 hk1; obtain ⟨-, -, -, c3, c4, c5⟩ := boxc6 (hw1.heap HXa.out); go_simp) ?_
      simp only [Act.put, sA, sB, sC]
      refine fV (by rfl) (by intro w1 hw1 hk1; go_simp) ?_
      simp only [Act.put, sA, sB, sC]
      refine fC (by rfl) (by intro w1 hw1 hk1; exact HS2.out _) (by intro; go_simp) ?_
      simp only [Act.put, sA, sB, sC]
      refine fV (by rfl) (by intro w1 hw1 hk1; go_simp) ?_
      simp only [Act.put, sA, sB, sC]
      intro w1 hw1 hk1
      have HB3 := Lib.hid hw1
      clear hw1
      go_wp2
      go_ret
      exact ⟨_, rfl, HBW.out.trans HB3.out, rfl⟩
  · rw [decide_eq_false h1] at HS1
    rw [decide_eq_false (show ¬ ((ka1 ≤ m ∧ ja1 ≤ m) ∧ (ka2 ≤ m ∧ ja2 ≤ m)) from fun h => h1 h.1)]
    clear h1 HS2
    go_enter Tryz.func113, Tryz.ntmps113
    go_upto_region 1 with fail
    obtain ⟨hXa, hbw⟩ := boxes1 w (.cells #[.bool sa1, .slice pa1 ka1 ca1, .slice qa1 ja1 da1, .bool sa2, .slice pa2 ka2 ca2, .slice qa2 ja2 da2] 28)
    obtain ⟨W, hW⟩ : ∃ W, w.alloc (.cells #[.bool sa1, .slice pa1 ka1 ca1, .slice qa1 ja1 da1, .bool sa2, .slice pa2 ka2 ca2, .slice qa2 ja2 da2] 28) = W := ⟨_, rfl⟩
    rw [hW] at hXa hbw ⊢
    obtain ⟨Xa, eXa⟩ : ∃ X, w.heap.size = X := ⟨_, rfl⟩
    rw [eXa]
    rw [eXa] at hXa
    have HXa := Lib.hid hXa
    have HBW := Lib.hid hbw
    have HGEXa : Hid (w.heap.size ≤ Xa) := by unfold Hid; omega
    clear hW hbw hXa eXa
    refine line_region 10 [[], [0], [], [1, 2], [3], [4], [4, 5], [4], [4, 6, 7], [4, 8]] [.is (.pointer (some ⟨Xa, 0, none⟩)), .is (.agg #[.bool sa1, .slice pa1 ka1 ca1, .slice qa1 ja1 da1]), .is (.int .i64 (m : Nat)), .is (.bool false), .is (.bool false), .is undef, .is undef, .is undef, .is undef, .is (.bool false)] rfl rfl (by decide) (by simp only [Steady]) ?_
    simp only [List.take_succ_cons, List.take_zero, List.drop_succ_cons, List.drop_zero]
    refine fV (by rfl) (by intro w1 hw1 hk1; go_simp) ?_
    simp only [Act.put, sA, sB, sC]
    refine fV (by rfl) (by intro w1 hw1 hk1; obtain ⟨c0, c1, c2, -, -, -⟩ := boxc6 (hw1.heap HXa.out); go_simp) ?_
    simp only [Act.put, sA, sB, sC]
    refine fV (by rfl) (by intro w1 hw1 hk1; go_simp) ?_
    simp only [Act.put, sA, sB, sC]
    refine fC (by rfl) (by intro w1 hw1 hk1; exact HS1.out _) (by intro; go_simp) ?_
    simp only [Act.put, sA, sB, sC]
    refine fV (by rfl) (by intro w1 hw1 hk1; go_simp) ?_
    simp only [Act.put, sA, sB, sC]
    refine flow_is (fun w1 hw1 hk1 => wantnot (fun h => Bool.noConfusion (show false = true from h)) rfl) ?_
    simp only [Act.put, sA, sB, sC]
    refine flow_is (fun w1 hw1 hk1 => wantnot (fun h => Bool.noConfusion (show false = true from h)) rfl) ?_
    simp only [Act.put, sA, sB, sC]
    refine flow_is (fun w1 hw1 hk1 => wantnot (fun h => Bool.noConfusion (show false = true from h)) rfl) ?_
    simp only [Act.put, sA, sB, sC]
    refine flow_is (fun w1 hw1 hk1 => wantnot (fun h => Bool.noConfusion (show false = true from h)) rfl) ?_
    simp only [Act.put, sA, sB, sC]
    refine fV (by rfl) (by intro w1 hw1 hk1; go_simp) ?_
    simp only [Act.put, sA, sB, sC]
    intro w1 hw1 hk1
    have HB3 := Lib.hid hw1
    clear hw1
    go_wp2
    go_ret
    exact ⟨_, rfl, HBW.out.trans HB3.out, rfl⟩
/-- A point as it came in: signs and slices. -/
structure Rp where
  (s1 : Bool) (p1 : Option Addr) (k1 c1 : Nat) (q1 : Option Addr) (j1 d1 : Nat)
  (s2 : Bool) (p2 : Option Addr) (k2 c2 : Nat) (q2 : Option Addr) (j2 d2 : Nat)
def Rp.row (x : Rp) : List Value := [.bool x.s1, .slice x.p1 x.k1 x.c1, .slice x.q1 x.j1 x.d1, .bool x.s2, .slice x.p2 x.k2 x.c2, .slice x.q2 x.j2 x.d2]
def Rp.ok (m : Nat) (x : Rp) : Bool := decide ((x.k1 ≤ m ∧ x.j1 ≤ m) ∧ (x.k2 ≤ m ∧ x.j2 ≤ m))
set_option maxRecDepth 100000 in
set_option maxHeartbeats 1000000 in
theorem smallLine_any (G c m : Nat) (l : List Rp) (w : World) (hrow : ∀ (i : Nat) (x : Rp), l[i]? = some x → ∀ (r : Nat) (v : Value), x.row[r]? = some v → w.cell? ⟨G, i * 6 + r, none⟩ = some v) (_ : l.length ≤ c) (hl : l.length < 1000000) :
    Calls Tryz.prog 71 #[.slice (some ⟨G, 0, none⟩) l.length c, .int .i64 (m : Nat)] w (Makes w fun v _ => v = .bool (l.all (Rp.ok m))) := by
  have HR := Lib.hid hrow
  clear hrow
  go_enter Tryz.func71, Tryz.ntmps71
  go_wp2
  go_loopg [5] l.length (fun gf s5 wx => ∃ i : Nat, s5 = .int .i64 i ∧ i ≤ l.length ∧ l.length ≤ i + gf ∧ (l.take i).all (Rp.ok m) = true ∧ Bel w wx)
  case atStart => exact ⟨0, rfl, Nat.zero_le _, by omega, by simp, Bel.refl w⟩
  case round =>
    obtain ⟨i, rfl, hi, hig, hrel, hb⟩ := hrel
    have HREL := Lib.hid hrel
    have HB := Lib.hid hb
    clear hrel hb
    by_cases hlt : i < l.length
    · obtain ⟨gk', rfl⟩ : ∃ g, gk = g + 1 := ⟨gk - 1, by omega⟩
      obtain ⟨x, hx⟩ : ∃ x, l[i]? = some x := ⟨_, List.getElem?_eq_getElem hlt⟩
      have HX := Lib.hid hx
      clear hx
      obtain ⟨s1, p1, k1, c1, q1, j1, d1, s2, p2, k2, c2, q2, j2, d2⟩ := x
      have HS := Lib.hid (fun X => keepSmallPt_any s1 p1 k1 c1 q1 j1 d1 s2 p2 k2 c2 q2 j2 d2 m X)
      have f0 := HB.out.cell (HR.out i _ HX.out 0 _ rfl)
      have f1 := HB.out.cell (HR.out i _ HX.out 1 _ rfl)
      have f2 := HB.out.cell (HR.out i _ HX.out 2 _ rfl)
      have f3 := HB.out.cell (HR.out i _ HX.out 3 _ rfl)
      have f4 := HB.out.cell (HR.out i _ HX.out 4 _ rfl)
      have f5 := HB.out.cell (HR.out i _ HX.out 5 _ rfl)
      rw [Nat.add_zero] at f0
      by_cases hok : (k1 ≤ m ∧ j1 ≤ m) ∧ (k2 ≤ m ∧ j2 ≤ m)
      · rw [decide_eq_true hok] at HS
        have HOK : Hid (Rp.ok m ⟨s1, p1, k1, c1, q1, j1, d1, s2, p2, k2, c2, q2, j2, d2⟩ = true) := decide_eq_true hok
        clear hok
        go_wp2_with (go_at_call 113; (with_reducible refine (HS.out _).mono ?_); rintro e w1 ⟨v1, rfl, hb1, rfl⟩; have HB1 := Lib.hid (HB.out.trans hb1); clear hb1)
        go_roundg gk'
        case measure => omega
        case rel => exact ⟨i + 1, rfl, by omega, by omega, by rw [List.take_add_one, HX.out]; simp [HREL.out, HOK.out], HB1.out⟩
      · rw [decide_eq_false hok] at HS
        have HOK : Hid (Rp.ok m ⟨s1, p1, k1, c1, q1, j1, d1, s2, p2, k2, c2, q2, j2, d2⟩ = false) := decide_eq_false hok
        clear hok
        go_wp2_with (go_at_call 113; (with_reducible refine (HS.out _).mono ?_); rintro e w1 ⟨v1, rfl, hb1, rfl⟩; have HB1 := Lib.hid (HB.out.trans hb1); clear hb1)
        go_ret
        exact ⟨_, rfl, HB1.out, by
          rw [show l.all (Rp.ok m) = false from List.all_eq_false.2 ⟨_, List.mem_of_getElem? HX.out, by rw [HOK.out]; simp⟩]; rfl⟩
    · obtain rfl : i = l.length := by omega
      rw [List.take_length] at HREL
      go_wp2
      go_ret
      exact ⟨_, rfl, HB.out, by rw [HREL.out]; rfl⟩
theorem fair_any (G c : Nat) (l : List Rp) (w : World) (hrow : ∀ (i : Nat) (x : Rp), l[i]? = some x → ∀ (r : Nat) (v : Value), x.row[r]? = some v → w.cell? ⟨G, i * 6 + r, none⟩ = some v) (hlc : l.length ≤ c) (hl : l.length < 1000000) :
    Calls Tryz.prog 12 #[.slice (some ⟨G, 0, none⟩) l.length c] w (Makes w fun v _ => v = .bool (l.all (Rp.ok 6))) := by
  have HS := Lib.hid (smallLine_any G c 6 l w hrow hlc hl)
  rw [show ((6 : Nat) : Int) = 6 from rfl] at HS
  clear hrow
  go_enter Tryz.func12, Tryz.ntmps12
  go_wp2_with (go_at_call 71; (with_reducible refine HS.out.mono ?_); rintro e w1 ⟨v1, rfl, hb1, rfl⟩; have HB1 := Lib.hid hb1; clear hb1)
  go_ret
  exact ⟨_, rfl, HB1.out, rfl⟩
theorem mk_ngood1 {w : World} {a : Value} {n : Nat} (ha : NC w a n) (hf : Fit n) : Calls Tryz.prog 134 #[a] w (Makes w fun v _ => v = .bool true) := by
  obtain ⟨p, c, rfl, hr, -⟩ := ha
  refine (natGood_any p c (limB B64 n) w hr (Nat.lt_of_lt_of_le hf (by decide))).mono ?_
  rintro e w' ⟨rfl, rfl⟩
  exact ⟨_, rfl, Bel.refl _, by rw [trim_lim b64_two]; simp⟩
set_option maxHeartbeats 4000000 in
set_option maxRecDepth 100000 in
theorem mk_zgood1 {w : World} {a : Value} {x : Int} (ha : ZC w a x) (hf : Fit x.natAbs) : Calls Tryz.prog 133 #[a] w (Makes w fun v _ => v = .bool true) := by
  obtain ⟨u, rfl, hu⟩ := ha
  have HG := Lib.hid (fun X (hX : Bel w X) => mk_ngood1 (hu.bel hX) hf)
  obtain ⟨p, c, k, rfl, hk⟩ := hu.slice
  by_cases hx : x < 0
  · rw [decide_eq_true hx]
    have HK : Hid (0 < k) := by unfold Hid; have : x.natAbs ≠ 0 := by omega
                                have := fun h => this (hk.1 h); omega
    clear hu hk hx hf
    go_enter Tryz.func133, Tryz.ntmps133
    go_upto_region 1 with fail
    obtain ⟨hXa, hbw⟩ := boxes1 w (.cells #[.bool true, .slice p k c] 24)
    obtain ⟨W, hW⟩ : ∃ W, w.alloc (.cells #[.bool true, .slice p k c] 24) = W := ⟨_, rfl⟩
    rw [hW] at hXa hbw ⊢
    obtain ⟨Xa, eXa⟩ : ∃ X, w.heap.size = X := ⟨_, rfl⟩
    rw [eXa]
    rw [eXa] at hXa
    have HXa := Lib.hid hXa
    have HBW := Lib.hid hbw
    have HGEXa : Hid (w.heap.size ≤ Xa) := by unfold Hid; omega
    clear hW hbw hXa eXa
    refine line_region 14 [[], [0], [1], [2], [3], [3, 4], [3, 5], [3, 6], [7], [7, 8], [7, 9], [7, 10], [3, 7, 11], [3, 12]] [.is (.pointer (some ⟨Xa, 1, none⟩)), .is (.slice p k c), .is (.bool true), .is (.bool true), .is (.pointer (some ⟨Xa, 0, none⟩)), .is (.bool true), .is (.bool false), .is (.bool false), .is (.pointer (some ⟨Xa, 1, none⟩)), .is (.slice p k c), .is (.int .i64 (k : Nat)), .is (.bool true), .is (.bool true), .is (.bool true)] rfl rfl (by decide) (by simp only [Steady]) ?_
    simp only [List.take_succ_cons, List.take_zero, List.drop_succ_cons, List.drop_zero]
    refine fV (by rfl) (by intro w1 hw1 hk1; go_simp) ?_
    simp only [Act.put, sA, sB, sC]
    refine fV (by rfl) (by intro w1 hw1 hk1; have c1 : w1.cell? ⟨Xa, 1, none⟩ = some (.slice p k c) := (heap_cell (hw1.heap HXa.out) 1).trans rfl; go_simp) ?_
    simp only [Act.put, sA, sB, sC]
    refine fC (by rfl) (by intro w1 hw1 hk1; exact HG.out _ (HBW.out.trans hw1)) (by intro; go_simp) ?_
    simp only [Act.put, sA, sB, sC]
    refine fV (by rfl) (by intro w1 hw1 hk1; go_simp) ?_
    simp only [Act.put, sA, sB, sC]
    refine fV (by rfl) (by intro w1 hw1 hk1; go_simp) ?_
    simp only [Act.put, sA, sB, sC]
    refine fV (by rfl) (by intro w1 hw1 hk1; have c0 : w1.cell? ⟨Xa, 0, none⟩ = some (.bool true) := (heap_cell (hw1.heap HXa.out) 0).trans rfl; go_simp) ?_
    simp only [Act.put, sA, sB, sC]
    refine fV (by rfl) (by intro w1 hw1 hk1; go_simp) ?_
    simp only [Act.put, sA, sB, sC]
    refine fV (by rfl) (by intro w1 hw1 hk1; go_simp) ?_
    simp only [Act.put, sA, sB, sC]
    refine fV (by rfl) (by intro w1 hw1 hk1; go_simp) ?_
    simp only [Act.put, sA, sB, sC]
    refine fV (by rfl) (by intro w1 hw1 hk1; have c1 : w1.cell? ⟨Xa, 1, none⟩ = some (.slice p k c) := (heap_cell (hw1.heap HXa.out) 1).trans rfl; go_simp) ?_
    simp only [Act.put, sA, sB, sC]
    refine fV (by rfl) (by intro w1 hw1 hk1; go_simp) ?_
    simp only [Act.put, sA, sB, sC]
    refine flow_is (by intro w1 hw1 hk1; refine want (by rfl) (gives_val ?_); go_simp; (first | (have := HK.out; omega) | (simp; have := HK.out; omega))) ?_
    simp only [Act.put, sA, sB, sC]
    refine fV (by rfl) (by intro w1 hw1 hk1; go_simp) ?_
    simp only [Act.put, sA, sB, sC]
    refine fV (by rfl) (by intro w1 hw1 hk1; go_simp) ?_
    simp only [Act.put, sA, sB, sC]
    intro w1 hw1 hk1
    have HB3 := Lib.hid hw1
    clear hw1
    go_wp2
    go_ret
    exact ⟨_, rfl, HBW.out.trans HB3.out, rfl⟩
  · rw [decide_eq_false hx]
    clear hu hk hx hf
    go_enter Tryz.func133, Tryz.ntmps133
    go_upto_region 1 with fail
    obtain ⟨hXa, hbw⟩ := boxes1 w (.cells #[.bool false, .slice p k c] 24)
    obtain ⟨W, hW⟩ : ∃ W, w.alloc (.cells #[.bool false, .slice p k c] 24) = W := ⟨_, rfl⟩
    rw [hW] at hXa hbw ⊢
    obtain ⟨Xa, eXa⟩ : ∃ X, w.heap.size = X := ⟨_, rfl⟩
    rw [eXa]
    rw [eXa] at hXa
    have HXa := Lib.hid hXa
    have HBW := Lib.hid hbw
    have HGEXa : Hid (w.heap.size ≤ Xa) := by unfold Hid; omega
    clear hW hbw hXa eXa
    refine line_region 14 [[], [0], [1], [2], [3], [3, 4], [3, 5], [3, 6], [7], [7, 8], [7, 9], [7, 10], [3, 7, 11], [3, 12]] [.is (.pointer (some ⟨Xa, 1, none⟩)), .is (.slice p k c), .is (.bool true), .is (.bool true), .is (.pointer (some ⟨Xa, 0, none⟩)), .is (.bool false), .is (.bool true), .is (.bool true), .is undef, .is undef, .is undef, .is undef, .is (.bool true), .is (.bool true)] rfl rfl (by decide) (by simp only [Steady]) ?_
    simp only [List.take_succ_cons, List.take_zero, List.drop_succ_cons, List.drop_zero]
    refine fV (by rfl) (by intro w1 hw1 hk1; go_simp) ?_
    simp only [Act.put, sA, sB, sC]
    refine fV (by rfl) (by intro w1 hw1 hk1; have c1 : w1.cell? ⟨Xa, 1, none⟩ = some (.slice p k c) := (heap_cell (hw1.heap HXa.out) 1).trans rfl; go_simp) ?_
    simp only [Act.put, sA, sB, sC]
    refine fC (by rfl) (by intro w1 hw1 hk1; exact HG.out _ (HBW.out.trans hw1)) (by intro; go_simp) ?_
    simp only [Act.put, sA, sB, sC]
    refine fV (by rfl) (by intro w1 hw1 hk1; go_simp) ?_
    simp only [Act.put, sA, sB, sC]
    refine fV (by rfl) (by intro w1 hw1 hk1; go_simp) ?_
    simp only [Act.put, sA, sB, sC]
    refine fV (by rfl) (by intro w1 hw1 hk1; have c0 : w1.cell? ⟨Xa, 0, none⟩ = some (.bool false) := (heap_cell (hw1.heap HXa.out) 0).trans rfl; go_simp) ?_
    simp only [Act.put, sA, sB, sC]
    refine fV (by rfl) (by intro w1 hw1 hk1; go_simp) ?_
    simp only [Act.put, sA, sB, sC]
    refine fV (by rfl) (by intro w1 hw1 hk1; go_simp) ?_
    simp only [Act.put, sA, sB, sC]
    refine flow_is (fun w1 hw1 hk1 => wantnot (fun h => Bool.noConfusion (show false = true from h)) rfl) ?_
    simp only [Act.put, sA, sB, sC]
    refine flow_is (fun w1 hw1 hk1 => wantnot (fun h => Bool.noConfusion (show false = true from h)) rfl) ?_
    simp only [Act.put, sA, sB, sC]
    refine flow_is (fun w1 hw1 hk1 => wantnot (fun h => Bool.noConfusion (show false = true from h)) rfl) ?_
    simp only [Act.put, sA, sB, sC]
    refine flow_is (fun w1 hw1 hk1 => wantnot (fun h => Bool.noConfusion (show false = true from h)) rfl) ?_
    simp only [Act.put, sA, sB, sC]
    refine fV (by rfl) (by intro w1 hw1 hk1; go_simp) ?_
    simp only [Act.put, sA, sB, sC]
    refine fV (by rfl) (by intro w1 hw1 hk1; go_simp) ?_
    simp only [Act.put, sA, sB, sC]
    intro w1 hw1 hk1
    have HB3 := Lib.hid hw1
    clear hw1
    go_wp2
    go_ret
    exact ⟨_, rfl, HBW.out.trans HB3.out, rfl⟩
set_option maxHeartbeats 4000000 in
set_option maxRecDepth 100000 in
theorem mk_rgood1 {w : World} {a : Value} {q : Rat} {i : Nat} (ha : RC w a q) (hs : Sz i q) (hl : i < LimK) : Calls Tryz.prog 86 #[a] w (Makes w fun v _ => v = .bool true) := by
  have fx := hs.fit (by omega)
  obtain ⟨p1, k1, c1, p2, k2, c2, rfl, hu, hd⟩ := ha.slice
  have HZG := Lib.hid (fun X (hX : Bel w X) => mk_zgood1 (num_of (ha.bel hX)) fx.1)
  have HNG := Lib.hid (fun X (hX : Bel w X) => mk_ngood1 (hd.bel hX) fx.2)
  have HGC := Lib.hid (fun X (hX : Bel w X) => mk_gcd ((hu.bel hX).ni' fx.1) ((hd.bel hX).ni' fx.2))
  rw [show Nat.gcd q.num.natAbs q.den = 1 from q.reduced] at HGC
  have HOF := Lib.hid (mk_of 1 (by decide))
  rw [show ((1 : Nat) : Int) = 1 from rfl] at HOF
  have HCM : Hid (∀ X u v, NC X u 1 → NC X v 1 → _) := fun X u v hu hv => mk_cmp (hu.ni' (fit_of (k := 1) (by decide) (by decide))) (hv.ni' (fit_of (k := 1) (by decide) (by decide)))
  rw [show cmpN 1 1 = 0 from by decide] at HCM
  have HK : Hid (0 < k2) := by
    obtain ⟨_, _, k, he, hk⟩ := hd.slice
    simp only [Value.slice.injEq] at he
    obtain ⟨_, rfl, _⟩ := he
    exact Nat.pos_of_ne_zero fun h => q.den_nz (hk.1 h)
  obtain ⟨s, hs'⟩ : ∃ s, decide (q.num < 0) = s := ⟨_, rfl⟩
  rw [hs'] at HZG ⊢
  clear ha hs hl fx hu hd hs'
  go_enter Tryz.func86, Tryz.ntmps86
  go_upto_region 1 with fail
  obtain ⟨hXa, hbw⟩ := boxes1 w (.cells #[.bool s, .slice p1 k1 c1, .slice p2 k2 c2] 26)
  obtain ⟨W, hW⟩ : ∃ W, w.alloc (.cells #[.bool s, .slice p1 k1 c1, .slice p2 k2 c2] 26) = W := ⟨_, rfl⟩
  rw [hW] at hXa hbw ⊢
  obtain ⟨Xa, eXa⟩ : ∃ X, w.heap.size = X := ⟨_, rfl⟩
  rw [eXa]
  rw [eXa] at hXa
  have HXa := Lib.hid hXa
  have HBW := Lib.hid hbw
  have HGEXa : Hid (w.heap.size ≤ Xa) := by unfold Hid; omega
  clear hW hbw hXa eXa
  refine line_region 25 [[], [0], [1], [2], [3], [3, 4], [3, 5], [3, 6], [7], [8], [8, 9], [8, 10], [8, 11], [8, 12], [13], [14], [14, 15], [14, 16], [14], [14, 18], [14, 17, 19], [14], [14, 20, 21], [14, 22], [14, 23]] [.is (.pointer (some ⟨Xa, 0, none⟩)), .is (.agg #[.bool s, .slice p1 k1 c1]), .is (.bool true), .is (.bool true), .is (.pointer (some ⟨Xa, 2, none⟩)), .is (.slice p2 k2 c2), .is (.bool true), .is (.bool true), .is (.bool true), .is (.pointer (some ⟨Xa, 2, none⟩)), .is (.slice p2 k2 c2), .is (.int .i64 (k2 : Nat)), .is (.bool true), .is (.bool true), .is (.bool true), .is (.pointer (some ⟨Xa, 0, none⟩)), .is (.pointer (some ⟨Xa, 1, none⟩)), .is (.slice p1 k1 c1), .is (.pointer (some ⟨Xa, 2, none⟩)), .is (.slice p2 k2 c2), .has (fun v w => NC w v 1), .has (fun v w => NC w v 1), .is (.int .i64 0), .is (.bool true), .is (.bool true)] rfl rfl (by decide) (by simp only [Steady]; exact ⟨fun _ _ _ h hb => h.bel hb, fun _ _ _ h hb => h.bel hb, trivial⟩) ?_
  simp only [List.take_succ_cons, List.take_zero, List.drop_succ_cons, List.drop_zero]
  refine fV (by rfl) (by intro w1 hw1 hk1; go_simp) ?_
  simp only [Act.put, sA, sB, sC]
  refine fV (by rfl) (by intro w1 hw1 hk1; obtain ⟨c0, c1, -⟩ := boxc3 (hw1.heap HXa.out); go_simp) ?_
  simp only [Act.put, sA, sB, sC]
  refine fC (by rfl) (by intro w1 hw1 hk1; exact HZG.out _ (HBW.out.trans hw1)) (by intro; go_simp) ?_
  simp only [Act.put, sA, sB, sC]
  refine fV (by rfl) (by intro w1 hw1 hk1; go_simp) ?_
  simp only [Act.put, sA, sB, sC]
  refine fV (by rfl) (by intro w1 hw1 hk1; go_simp) ?_
  simp only [Act.put, sA, sB, sC]
  refine fV (by rfl) (by intro w1 hw1 hk1; have c2 : w1.cell? ⟨Xa, 2, none⟩ = some (.slice p2 k2 c2) := (heap_cell (hw1.heap HXa.out) 2).trans rfl; go_simp) ?_
  simp only [Act.put, sA, sB, sC]
  refine fC (by rfl) (by intro w1 hw1 hk1; exact HNG.out _ (HBW.out.trans hw1)) (by intro; go_simp) ?_
  simp only [Act.put, sA, sB, sC]
  refine fV (by rfl) (by intro w1 hw1 hk1; go_simp) ?_
  simp only [Act.put, sA, sB, sC]
  refine fV (by rfl) (by intro w1 hw1 hk1; go_simp) ?_
  simp only [Act.put, sA, sB, sC]
  refine fV (by rfl) (by intro w1 hw1 hk1; go_simp) ?_
  simp only [Act.put, sA, sB, sC]
  refine fV (by rfl) (by intro w1 hw1 hk1; have c2 : w1.cell? ⟨Xa, 2, none⟩ = some (.slice p2 k2 c2) := (heap_cell (hw1.heap HXa.out) 2).trans rfl; go_simp) ?_
  simp only [Act.put, sA, sB, sC]
  refine fV (by rfl) (by intro w1 hw1 hk1; go_simp) ?_
  simp only [Act.put, sA, sB, sC]
  refine flow_is (by intro w1 hw1 hk1; refine want (by rfl) (gives_val ?_); go_simp; (first | (have := HK.out; omega) | (simp; have := HK.out; omega))) ?_
  simp only [Act.put, sA, sB, sC]
  refine fV (by rfl) (by intro w1 hw1 hk1; go_simp) ?_
  simp only [Act.put, sA, sB, sC]
  refine fV (by rfl) (by intro w1 hw1 hk1; go_simp) ?_
  simp only [Act.put, sA, sB, sC]
  refine fV (by rfl) (by intro w1 hw1 hk1; go_simp) ?_
  simp only [Act.put, sA, sB, sC]
  refine fV (by rfl) (by intro w1 hw1 hk1; go_simp) ?_
  simp only [Act.put, sA, sB, sC]
  refine fV (by rfl) (by intro w1 hw1 hk1; have c1 : w1.cell? ⟨Xa, 1, none⟩ = some (.slice p1 k1 c1) := (heap_cell (hw1.heap HXa.out) 1).trans rfl; go_simp) ?_
  simp only [Act.put, sA, sB, sC]
  refine fV (by rfl) (by intro w1 hw1 hk1; go_simp) ?_
  simp only [Act.put, sA, sB, sC]
  refine fV (by rfl) (by intro w1 hw1 hk1; have c2 : w1.cell? ⟨Xa, 2, none⟩ = some (.slice p2 k2 c2) := (heap_cell (hw1.heap HXa.out) 2).trans rfl; go_simp) ?_
  simp only [Act.put, sA, sB, sC]
  refine fH (by rfl) (by intro w1 hw1 hk1; exact HGC.out _ (HBW.out.trans hw1)) (by intro; go_simp) (fun v20 => ?_)
  simp only [Act.put, sA, sB, sC]
  refine fH (by rfl) (by intro w1 hw1 hk1; exact HOF.out _) (by intro; go_simp) (fun v21 => ?_)
  simp only [Act.put, sA, sB, sC]
  refine fC (by rfl) (by intro w1 hw1 hk1; obtain ⟨g21, g20, -⟩ := hk1; exact HCM.out _ _ _ g20 g21) (by intro; go_simp) ?_
  simp only [Act.put, sA, sB, sC]
  refine fV (by rfl) (by intro w1 hw1 hk1; go_simp) ?_
  simp only [Act.put, sA, sB, sC]
  refine fV (by rfl) (by intro w1 hw1 hk1; go_simp) ?_
  simp only [Act.put, sA, sB, sC]
  intro w1 hw1 hk1
  obtain ⟨g21, g20, -⟩ := hk1
  clear g20 g21
  have HB3 := Lib.hid hw1
  clear hw1
  go_wp2
  go_ret
  exact ⟨_, rfl, HBW.out.trans HB3.out, rfl⟩
set_option maxRecDepth 100000 in
theorem rtrim_any (p : Option Addr) (c : Nat) (l : List Nat) (w : World) (h : R32 w (.slice p l.length c) l) (hl : l.length < 4611686018427387904) :
    Calls Tryz.prog 118 #[.slice p l.length c] w fun e w' => e = .returned (.slice p (trimL l).length c) ∧ w' = w := by
  have H := Lib.hid h
  obtain ⟨p', c', he, hlc⟩ := h.form
  simp only [Value.slice.injEq] at he
  obtain ⟨rfl, _, rfl⟩ := he
  clear h
  go_enter Tryz.func118, Tryz.ntmps118
  go_wp2
  go_loopg [3] l.length (fun gf s3 wx => ∃ k : Nat, s3 = .int .i64 k ∧ k ≤ l.length ∧ k ≤ gf ∧ trimL (l.take k) = trimL l ∧ wx = w)
  case atStart => exact ⟨l.length, rfl, Nat.le_refl _, Nat.le_refl _, by rw [List.take_length], rfl⟩
  case round =>
    obtain ⟨k, rfl, hk, hkg, hrel, hw⟩ := hrel
    have HREL := Lib.hid hrel
    obtain rfl := hw
    clear hrel
    cases k with
    | zero =>
      go_wp2
      go_ret
      exact ⟨by rw [← HREL.out]; rfl, rfl⟩
    | succ m =>
      obtain ⟨gk', rfl⟩ : ∃ g, gk = g + 1 := ⟨gk - 1, by omega⟩
      obtain ⟨x, hx⟩ : ∃ x, l[m]? = some x := ⟨_, List.getElem?_eq_getElem (by omega)⟩
      obtain ⟨b, o, c', he, _, q0, _⟩ := H.out.at hx
      simp only [Value.slice.injEq] at he
      obtain ⟨rfl, _, rfl⟩ := he
      have HX := Lib.hid hx
      clear hx
      by_cases h0 : x = 0
      · subst h0
        go_wp2
        go_roundg gk'
        case measure => omega
        case rel => exact ⟨m, by go_num, by omega, by omega, by rw [← trim_take_zero HX.out]; exact HREL.out, rfl⟩
      · have h0' : ((x : Int) == 0) = false := beq_false_of_ne (by omega)
        have HT : Hid (trimL l = l.take (m + 1)) := by unfold Hid; rw [← HREL.out, trim_take_pos HX.out h0]
        clear h0
        go_wp2
        go_ret
        exact ⟨by rw [HT.out, List.length_take, Nat.min_eq_left hk]; rfl, rfl⟩
theorem infoU32 : (Tryz.prog.info? 135).map (fun i => (i.zero, i.size, i.bytes)) = some (some (.int .u32 0), 1, 4) := by kernel_rfl
theorem wpList_limbs32 {W w0 : World} {ops : Array Oper} {rest : List Oper} {o : Oper} {a : Act} {Q : Exit → Act → World → Prop} (hgd : o.guard = none) (s x : Operand) (t : TypeId) (ht : Tryz.prog.underlying t = some (.slice 135))
    (ho : o.op = .call { callee := .builtin .append, args := #[s, x], argTypes := #[t, t] }) (v : Value) (l : List Nat) (hs : a.eval s = v) (hown : O32 W w0.heap.size v l) (hb : Bel w0 W)
    (g m c : Nat) (hx : a.eval x = .slice (some ⟨g, 0, none⟩) m c) (ys : List Nat) (hm : ys.length = m) (hm0 : m ≠ 0) (hg : ∀ (j y : Nat), ys[j]? = some y → W.cell? ⟨g, j, none⟩ = some (.int .u32 (y : Int))) (hy : AllB B32 ys) (hl : l.length < 1000000000000) (hml : m < 1000000000000)
    (h : ∀ g' c w', O32 w' w0.heap.size (.slice (some ⟨g', 0, none⟩) (l.length + m) c) (l ++ ys) → Bel w0 w' → wpList Tryz.prog ops Q rest (a.put o.dst (.slice (some ⟨g', 0, none⟩) (l.length + m) c)) w') :
    wpList Tryz.prog ops Q (o :: rest) a W := by
  obtain ⟨i0, hi, hz0, hz1, hz2⟩ := info_parts infoU32
  refine wpList_append_own W hgd s x t ho w0.heap.size 135 i0 _ 1 4 ht hi hz0 hz1 hz2 rfl (by decide) v l.length _ hs hown.1 ⟨g, 0, none⟩ m c (ys.map (lmV .u32)) hx (by simp [hm]) ?_ ?_ (by unfold maxLen; omega) (by omega) hb.size ?_
  · intro j u hj
    rw [List.getElem?_map] at hj
    cases hyj : ys[j]? with
    | none => rw [hyj] at hj; cases hj
    | some y =>
      rw [hyj] at hj
      simp only [Option.map_some, Option.some.injEq] at hj
      subst hj
      rw [Addr.add_lit, Nat.zero_add]
      exact hg j y hyj
  · intro u hu
    obtain ⟨y, _, rfl⟩ := List.mem_map.1 hu
    rfl
  · intro v' w' ho' hg' hne
    rcases ho'.2 with ⟨rfl, _⟩ | ⟨g', cap, cur, rfl, hbb, rest'⟩
    · exact absurd ((hne.1 rfl).2) hm0
    · exact h g' cap w' ⟨by rw [List.length_append, hm, List.map_append]; exact ho', fun z hz => by
        rcases List.mem_append.1 hz with hz | hz
        · exact hown.2 z hz
        · exact hy z hz⟩ (grown_bel hb hown.1 (Nat.le_refl _) hg')
/-- Limbs of 64 bits as limbs of 32. -/
def halfL : List Nat → List Nat
  | [] => []
  | x :: l => x % B32 :: x / B32 :: halfL l
theorem half_len : ∀ l, (halfL l).length = 2 * l.length
  | [] => rfl
  | x :: l => by simp only [halfL, List.length_cons, half_len l]; omega
theorem half_val : ∀ l, valB B32 (halfL l) = valB B64 l
  | [] => rfl
  | x :: l => by
    simp only [halfL, valB, half_val l]
    have h1 := Nat.mod_add_div x B32
    have h2 : B64 = B32 * B32 := by decide
    rw [h2]
    grind
theorem half_all : ∀ {l : List Nat}, AllB B64 l → AllB B32 (halfL l)
  | [], _ => fun x hx => by simp [halfL] at hx
  | x :: l, h => fun y hy => by
    simp only [halfL, List.mem_cons] at hy
    have hx : x < B32 * B32 := h x (List.mem_cons_self ..)
    rcases hy with rfl | rfl | hy
    · exact Nat.mod_lt _ (by decide)
    · exact Nat.div_lt_of_lt_mul hx
    · exact half_all (fun z hz => h z (List.mem_cons_of_mem _ hz)) y hy
theorem half_append : ∀ l r, halfL (l ++ r) = halfL l ++ halfL r
  | [], _ => rfl
  | x :: l, r => by simp only [List.cons_append, halfL, half_append l r]
theorem half_take {l : List Nat} {i x : Nat} (h : l[i]? = some x) : halfL (l.take (i + 1)) = halfL (l.take i) ++ [x % B32, x / B32] := by
  rw [List.take_add_one, h, half_append]
  rfl
set_option maxRecDepth 100000 in
set_option maxHeartbeats 1000000 in
theorem rin_any (p : Option Addr) (c : Nat) (l : List Nat) (w : World) (h : R64 w (.slice p l.length c) l) (hl : l.length < 1000000000) :
    Calls Tryz.prog 73 #[.slice p l.length c] w fun e w' => ∃ p' c', e = .returned (.slice p' (limB B32 (valB B64 l)).length c') ∧
      O32 w' w.heap.size (.slice p' (limB B32 (valB B64 l)).length c') (limB B32 (valB B64 l)) ∧ Bel w w' := by
  have H := Lib.hid h
  have HALL := Lib.hid (half_all h.all)
  clear h
  go_enter Tryz.func73, Tryz.ntmps73
  go_wp2
  go_loopg [3, 4] l.length (fun gf s3 s4 wx => ∃ (i : Nat) (o : List Nat) (q : Option Addr) (cq : Nat), s4 = .int .i64 i ∧ s3 = .slice q o.length cq ∧ i ≤ l.length ∧ l.length ≤ i + gf ∧ o = halfL (l.take i) ∧ O32 wx w.heap.size (.slice q o.length cq) o ∧ Bel w wx)
  case atStart => exact ⟨0, [], none, 0, rfl, rfl, by omega, by omega, by simp [halfL], LOwn.nil _ _ _ _ _, Bel.refl w⟩
  case round =>
    obtain ⟨i, o, q, cq, rfl, rfl, hi, hig, ho, hown, hb⟩ := hrel
    have HOWN := Lib.hid hown
    have HB := Lib.hid hb
    have HO := Lib.hid ho
    have hol : o.length = 2 * i := by rw [ho, half_len, List.length_take]; omega
    have HOL := Lib.hid hol
    have hob : o.length < 3000000000 := by omega
    clear hown hb ho hol
    by_cases hlt : i < l.length
    · obtain ⟨gk', rfl⟩ : ∃ g, gk = g + 1 := ⟨gk - 1, by omega⟩
      obtain ⟨x, hx⟩ : ∃ x, l[i]? = some x := ⟨_, List.getElem?_eq_getElem hlt⟩
      obtain ⟨b, of, c', he, hlc, q0, hxb⟩ := (H.out.bel HB.out).at hx
      simp only [Value.slice.injEq] at he
      obtain ⟨rfl, _, rfl⟩ := he
      have HX := Lib.hid hx
      have HC := Lib.hid q0
      have hxB : x < 18446744073709551616 := hxb
      obtain ⟨LO, hLO⟩ : ∃ z, x % B32 = z := ⟨_, rfl⟩
      obtain ⟨HI, hHI⟩ : ∃ z, x / B32 = z := ⟨_, rfl⟩
      have hLO' : x % 4294967296 = LO := hLO
      have hHI' : x / 4294967296 = HI := hHI
      have e1 : IntKind.u32.wrap (x : Int) = (LO : Int) := by rw [IntKind.wrap_u32]; omega
      have e2 : IntKind.u32.wrap (HI : Int) = (HI : Int) := by rw [IntKind.wrap_u32]; omega
      have e3 : (x : Int) / 4294967296 = (HI : Int) := by omega
      have HLH : Hid (halfL (l.take (i + 1)) = o ++ [LO, HI]) := by unfold Hid; rw [half_take hx, hLO, hHI, ← HO.out]
      have l1 : LO < 4294967296 := by omega
      have l2 : HI < 4294967296 := by omega
      have HLB : Hid (AllB B32 [LO, HI]) := fun z hz => by
        have : B32 = 4294967296 := rfl
        simp only [List.mem_cons, List.not_mem_nil, or_false] at hz
        rcases hz with rfl | rfl <;> omega
      clear hLO hHI hLO' hHI' hxb
      clear hx q0
      go_upto_region 5 with fail
      refine region_flow 13 [[], [], [], [1, 2], [3], [4], [], [], [6, 7], [8], [9], [10], [5, 11]] [.is (.slice q o.length cq), .is (.slice (some ⟨b, of, none⟩) l.length c), .is (.int .i64 (i : Nat)), .is (.pointer (some ⟨b, of + i, none⟩)), .is (.int .u64 (x : Nat)), .is (.int .u32 (LO : Nat)), .is (.slice (some ⟨b, of, none⟩) l.length c), .is (.int .i64 (i : Nat)), .is (.pointer (some ⟨b, of + i, none⟩)), .is (.int .u64 (x : Nat)), .is (.int .u64 (HI : Nat)), .is (.int .u32 (HI : Nat)), .has (fun v w => ∃ g, v = .slice (some ⟨g, 0, none⟩) 2 2 ∧ w.heap[g]? = some (.cells #[.int .u32 (LO : Nat), .int .u32 (HI : Nat)] 135 (0, 0)))] (by kernel_rfl) (by kernel_rfl) rfl (by simp only [Steady]; exact ⟨fun _ _ _ h hb => by obtain ⟨g, h1, h2⟩ := h; exact ⟨g, h1, hb.heap h2⟩, trivial⟩) ?_
      simp only [List.take_succ_cons, List.take_zero, List.drop_succ_cons, List.drop_zero]
      refine fV (by rfl) (by intro w1 hw1 hk1; go_simp) ?_
      simp only [Act.put, sA, sB, sC]
      refine fV (by rfl) (by intro w1 hw1 hk1; go_simp) ?_
      simp only [Act.put, sA, sB, sC]
      refine fV (by rfl) (by intro w1 hw1 hk1; go_simp) ?_
      simp only [Act.put, sA, sB, sC]
      refine fV (by rfl) (by intro w1 hw1 hk1; go_simp) ?_
      simp only [Act.put, sA, sB, sC]
      refine flow_is (by intro w1 hw1 hk1; have q1 := hw1.cell HC.out; refine want (by rfl) (gives_val ?_); go_simp) ?_
      simp only [Act.put, sA, sB, sC]
      refine flow_is (by intro w1 hw1 hk1; refine want (by rfl) (gives_val ?_); go_simp) ?_
      simp only [Act.put, sA, sB, sC]
      refine fV (by rfl) (by intro w1 hw1 hk1; go_simp) ?_
      simp only [Act.put, sA, sB, sC]
      refine fV (by rfl) (by intro w1 hw1 hk1; go_simp) ?_
      simp only [Act.put, sA, sB, sC]
      refine fV (by rfl) (by intro w1 hw1 hk1; go_simp) ?_
      simp only [Act.put, sA, sB, sC]
      refine flow_is (by intro w1 hw1 hk1; have q1 := hw1.cell HC.out; refine want (by rfl) (gives_val ?_); go_simp) ?_
      simp only [Act.put, sA, sB, sC]
      refine flow_is (by intro w1 hw1 hk1; refine want (by rfl) (gives_val ?_); go_simp) ?_
      simp only [Act.put, sA, sB, sC]
      refine flow_is (by intro w1 hw1 hk1; refine want (by rfl) (gives_val ?_); go_simp; (first | done | exact e2 | trace_state)) ?_
      simp only [Act.put, sA, sB, sC]
      refine flow_has (by intro w1 hw1 hk1; refine want (by rfl) (gives_new (c := .slice (some ⟨w1.heap.size, 0, none⟩) 2 2) (w' := w1.alloc (.cells #[.int .u32 (LO : Nat), .int .u32 (HI : Nat)] 135 (0, 0))) (by go_simp) ((Bel.refl w1).alloc _) ?_); exact ⟨_, rfl, (boxes1 _ _).1⟩) (fun v12 => ?_)
      simp only [Act.put, sA, sB, sC]
      intro w1 hw1 hk1
      obtain ⟨g12, -⟩ := hk1
      obtain ⟨g, rfl, hg⟩ := g12
      have HG := Lib.hid hg
      have HB3 := Lib.hid (HB.out.trans hw1)
      have HOWN3 := Lib.hid (HOWN.out.bel hw1)
      clear hg hw1
      refine wpList_limbs32 (W := w1) (w0 := w) rfl (.tmp 11) (.tmp 23) 33 Tryz.underlying33 rfl (.slice q o.length cq) o rfl HOWN3.out HB3.out g 2 2 rfl [LO, HI] rfl (by decide) (fun j y hj => ?_) HLB.out (by omega) (by decide) ?_
      · match j, hj with
        | 0, hj => simp at hj; subst hj; exact (heap_cell HG.out 0).trans rfl
        | 1, hj => simp at hj; subst hj; exact (heap_cell HG.out 1).trans rfl
        | j + 2, hj => simp at hj
      · intro g' cc w3 ho3 hb3
        have HO3 := Lib.hid ho3
        have HB4 := Lib.hid hb3
        clear ho3 hb3
        go_wp2
        go_roundg gk'
        case measure => omega
        case rel =>
          have hlen : (o ++ [LO, HI]).length = o.length + 2 := by simp
          exact ⟨i + 1, o ++ [LO, HI], some ⟨g', 0, none⟩, cc, by go_num, by rw [hlen], by omega, by omega, HLH.out.symm, by rw [hlen]; exact HO3.out, HB4.out⟩
    · obtain rfl : i = l.length := by omega
      have hfin : limB B32 (valB B64 l) = trimL o := by
        have h2 : (2 : Nat) ≤ B32 := by decide
        rw [← half_val l, ← trim_lim h2, lim_val h2 HALL.out, trim_trim, HO.out, List.take_length]
      have HF := Lib.hid hfin
      clear hfin
      go_wp2_with (go_at_call 118; (with_reducible refine (rtrim_any _ _ o _ HOWN.out.row (by omega)).mono ?_); rintro e w4 ⟨rfl, hw4⟩; obtain rfl := hw4.symm)
      go_ret
      rw [HF.out]
      refine ⟨q, cq, rfl, ?_, HB.out⟩
      have h := HOWN.out.take (trim_len o)
      rwa [← trim_prefix] at h
end Go.Proofs.YtafmfnpjhhaikaaGreatDoor
