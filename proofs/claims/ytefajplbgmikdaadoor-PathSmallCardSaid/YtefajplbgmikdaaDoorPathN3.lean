/-
  The walk of the pen's move.
-/
import Derived.Test.YtefajplbgmikdaaDoorPathM
namespace Go.Proofs.YtefajplbgmikdaaDoor
open Go.RowKit

set_option maxHeartbeats 2000000 in
set_option maxRecDepth 100000 in
theorem move_o2 (p : Pen) (hp : PenOk p) (s : Sg) (hs : SgOk s) (hk1 : s.kind ≠ 1) (hk6 : s.kind ≠ 6) (q : Nat) (w : World) (h : Pn w q p) :
    Calls Tryd.prog 82 #[.pointer (some ⟨q, 0, none⟩), .agg (sgC s).toArray, .int .i64 2] w fun e w' => e = .returned (.tuple #[]) ∧ Below q w w' ∧ KeepBut q w w' ∧ Pn w' q (moveS p s (2 : Nat)) := by
  obtain ⟨x, y, fx, fy, ⟨lk, lv, lw⟩⟩ := p
  obtain ⟨sk, sv, sw⟩ := s
  obtain ⟨l0, l1, l2, l3, l4, l5, rfl⟩ := six hp.last.1
  obtain ⟨v0, v1, v2, v3, v4, v5, rfl⟩ := six hs.1
  dsimp only at hk1 hk6
  have hk1' : (sk == 1) = false := by simpa using hk1
  have hk6' : (sk == 6) = false := by simpa using hk6
  simp only [sgC, List.map_cons, List.map_nil, List.cons_append, List.nil_append]
  have hP := heap_push_of h (.cells #[.int .i64 sk, .int .i64 v0, .int .i64 v1, .int .i64 v2, .int .i64 v3, .int .i64 v4, .int .i64 v5, .int .i64 sw] 36)
  have hB := heap_alloc_new w (.cells #[.int .i64 sk, .int .i64 v0, .int .i64 v1, .int .i64 v2, .int .i64 v3, .int .i64 v4, .int .i64 v5, .int .i64 sw] 36)
  have hbl : Bel w (w.alloc (.cells #[.int .i64 sk, .int .i64 v0, .int .i64 v1, .int .i64 v2, .int .i64 v3, .int .i64 v4, .int .i64 v5, .int .i64 sw] 36)) := (Bel.refl w).alloc _
  have hqB : q < w.heap.size := heap_lt h
  have HBL := Lib.hid hbl
  have hqw : q < w.heap.size := heap_lt h
  have HP := Lib.hid hP
  have HB := Lib.hid hB
  have HM : Hid (moveS ⟨x, y, fx, fy, ⟨lk, [l0, l1, l2, l3, l4, l5], lw⟩⟩ ⟨sk, [v0, v1, v2, v3, v4, v5], sw⟩ (2 : Nat) = ⟨v0, v1, fx, fy, ⟨sk, [v0, v1, v2, v3, v4, v5], sw⟩⟩) := by
    unfold Hid moveS
    simp [hk1, hk6]
  rw [HM.out]
  clear hP hB hbl hk1 hk6
  go_enter Tryd.func82, Tryd.ntmps82
  go_wp2_with fail
  generalize w.alloc (.cells #[.int .i64 sk, .int .i64 v0, .int .i64 v1, .int .i64 v2, .int .i64 v3, .int .i64 v4, .int .i64 v5, .int .i64 sw] 36) = V at HB HP HBL ⊢
  obtain ⟨B, hBw⟩ : ∃ B, w.heap.size = B := ⟨_, rfl⟩
  rw [hBw] at HB hqB ⊢
  have HBw := Lib.hid hBw
  clear hBw
  have c0 : V.cell? ⟨q, 0, none⟩ = some (.int .i64 x) := by rw [heap_cell HP.out]; rfl
  have c1 : V.cell? ⟨q, 1, none⟩ = some (.int .i64 y) := by rw [heap_cell HP.out]; rfl
  have c2 : V.cell? ⟨q, 2, none⟩ = some (.int .i64 fx) := by rw [heap_cell HP.out]; rfl
  have c3 : V.cell? ⟨q, 3, none⟩ = some (.int .i64 fy) := by rw [heap_cell HP.out]; rfl
  have b0 : V.cell? ⟨B, 0, none⟩ = some (.int .i64 sk) := by rw [heap_cell HB.out]; rfl
  have b1 : V.cell? ⟨B, 1, none⟩ = some (.int .i64 v0) := by rw [heap_cell HB.out]; rfl
  have b2 : V.cell? ⟨B, 2, none⟩ = some (.int .i64 v1) := by rw [heap_cell HB.out]; rfl
  have b3 : V.cell? ⟨B, 3, none⟩ = some (.int .i64 v2) := by rw [heap_cell HB.out]; rfl
  have b4 : V.cell? ⟨B, 4, none⟩ = some (.int .i64 v3) := by rw [heap_cell HB.out]; rfl
  have b5 : V.cell? ⟨B, 5, none⟩ = some (.int .i64 v4) := by rw [heap_cell HB.out]; rfl
  have b6 : V.cell? ⟨B, 6, none⟩ = some (.int .i64 v5) := by rw [heap_cell HB.out]; rfl
  have b7 : V.cell? ⟨B, 7, none⟩ = some (.int .i64 sw) := by rw [heap_cell HB.out]; rfl
  have f := fun j => heap_frozen HP.out j
  go_region
  have hP2 : ((V.setCell ⟨q, 0, none⟩ (.int .i64 v0)).setCell ⟨q, 1, none⟩ (.int .i64 v1)).drew.heap[q]? = _ := heap_set (heap_set HP.out 0 (.int .i64 v0)) 1 (.int .i64 v1)
  simp only [penC, sgC, List.map_cons, List.map_nil, List.cons_append, List.nil_append, List.setIfInBounds_toArray, List.set_cons_succ, List.set_cons_zero] at hP2
  have hoff2 : ∀ k, k ≠ q → ((V.setCell ⟨q, 0, none⟩ (.int .i64 v0)).setCell ⟨q, 1, none⟩ (.int .i64 v1)).drew.heap[k]? = V.heap[k]? := fun k hk => (Below.heap_setCell _ ⟨q, 1, none⟩ _ _ hk).trans (Below.heap_setCell _ ⟨q, 0, none⟩ _ _ hk)
  have hb2 : Below q V ((V.setCell ⟨q, 0, none⟩ (.int .i64 v0)).setCell ⟨q, 1, none⟩ (.int .i64 v1)).drew := (((Below.refl q V).setCell (p := ⟨q, 0, none⟩) (Nat.le_refl _) _).setCell (p := ⟨q, 1, none⟩) (Nat.le_refl _) _).drew
  have hB2 := (hoff2 B (by omega)).trans HB.out
  have HP2 := Lib.hid hP2
  have HB2 := Lib.hid hB2
  have HOV2 := Lib.hid hoff2
  have HBWV2 := Lib.hid hb2
  clear hP2 hoff2 hb2 hB2 HP HB c0 c1 c2 c3 f b0 b1 b2 b3 b4 b5 b6 b7
  have HP := HP2
  have HB := HB2
  clear HP2 HB2
  generalize ((V.setCell ⟨q, 0, none⟩ (.int .i64 v0)).setCell ⟨q, 1, none⟩ (.int .i64 v1)).drew = V2 at HP HB HOV2 HBWV2 ⊢
  have b0 : V2.cell? ⟨B, 0, none⟩ = some (.int .i64 sk) := by rw [heap_cell HB.out]; rfl
  have b1 : V2.cell? ⟨B, 1, none⟩ = some (.int .i64 v0) := by rw [heap_cell HB.out]; rfl
  have b2 : V2.cell? ⟨B, 2, none⟩ = some (.int .i64 v1) := by rw [heap_cell HB.out]; rfl
  have b3 : V2.cell? ⟨B, 3, none⟩ = some (.int .i64 v2) := by rw [heap_cell HB.out]; rfl
  have b4 : V2.cell? ⟨B, 4, none⟩ = some (.int .i64 v3) := by rw [heap_cell HB.out]; rfl
  have b5 : V2.cell? ⟨B, 5, none⟩ = some (.int .i64 v4) := by rw [heap_cell HB.out]; rfl
  have b6 : V2.cell? ⟨B, 6, none⟩ = some (.int .i64 v5) := by rw [heap_cell HB.out]; rfl
  have b7 : V2.cell? ⟨B, 7, none⟩ = some (.int .i64 sw) := by rw [heap_cell HB.out]; rfl
  have p4 : V2.cell? ⟨q, 4, none⟩ = some (.int .i64 lk) := by rw [heap_cell HP.out]; rfl
  have p5 : V2.cell? ⟨q, 5, none⟩ = some (.int .i64 l0) := by rw [heap_cell HP.out]; rfl
  have p6 : V2.cell? ⟨q, 6, none⟩ = some (.int .i64 l1) := by rw [heap_cell HP.out]; rfl
  have p7 : V2.cell? ⟨q, 7, none⟩ = some (.int .i64 l2) := by rw [heap_cell HP.out]; rfl
  have p8 : V2.cell? ⟨q, 8, none⟩ = some (.int .i64 l3) := by rw [heap_cell HP.out]; rfl
  have p9 : V2.cell? ⟨q, 9, none⟩ = some (.int .i64 l4) := by rw [heap_cell HP.out]; rfl
  have p10 : V2.cell? ⟨q, 10, none⟩ = some (.int .i64 l5) := by rw [heap_cell HP.out]; rfl
  have p11 : V2.cell? ⟨q, 11, none⟩ = some (.int .i64 lw) := by rw [heap_cell HP.out]; rfl
  have f := fun j => heap_frozen HP.out j
  have hf := (heap_set (heap_set (heap_set (heap_set (heap_set (heap_set (heap_set (heap_set HP.out 4 (.int .i64 sk)) 5 (.int .i64 v0)) 6 (.int .i64 v1)) 7 (.int .i64 v2)) 8 (.int .i64 v3)) 9 (.int .i64 v4)) 10 (.int .i64 v5)) 11 (.int .i64 sw))
  simp only [List.setIfInBounds_toArray, List.set_cons_succ, List.set_cons_zero] at hf
  have HF : Hid (Pn ((((((((V2.setCell ⟨q, 4, none⟩ (.int .i64 sk)).setCell ⟨q, 5, none⟩ (.int .i64 v0)).setCell ⟨q, 6, none⟩ (.int .i64 v1)).setCell ⟨q, 7, none⟩ (.int .i64 v2)).setCell ⟨q, 8, none⟩ (.int .i64 v3)).setCell ⟨q, 9, none⟩ (.int .i64 v4)).setCell ⟨q, 10, none⟩ (.int .i64 v5)).setCell ⟨q, 11, none⟩ (.int .i64 sw)) q ⟨v0, v1, fx, fy, ⟨sk, [v0, v1, v2, v3, v4, v5], sw⟩⟩) := hf
  clear hf
  have HG : Hid (Below q V2 ((((((((V2.setCell ⟨q, 4, none⟩ (.int .i64 sk)).setCell ⟨q, 5, none⟩ (.int .i64 v0)).setCell ⟨q, 6, none⟩ (.int .i64 v1)).setCell ⟨q, 7, none⟩ (.int .i64 v2)).setCell ⟨q, 8, none⟩ (.int .i64 v3)).setCell ⟨q, 9, none⟩ (.int .i64 v4)).setCell ⟨q, 10, none⟩ (.int .i64 v5)).setCell ⟨q, 11, none⟩ (.int .i64 sw))) := (((((((((Below.refl q V2).setCell (p := ⟨q, 4, none⟩) (Nat.le_refl _) (.int .i64 sk)).setCell (p := ⟨q, 5, none⟩) (Nat.le_refl _) (.int .i64 v0)).setCell (p := ⟨q, 6, none⟩) (Nat.le_refl _) (.int .i64 v1)).setCell (p := ⟨q, 7, none⟩) (Nat.le_refl _) (.int .i64 v2)).setCell (p := ⟨q, 8, none⟩) (Nat.le_refl _) (.int .i64 v3)).setCell (p := ⟨q, 9, none⟩) (Nat.le_refl _) (.int .i64 v4)).setCell (p := ⟨q, 10, none⟩) (Nat.le_refl _) (.int .i64 v5)).setCell (p := ⟨q, 11, none⟩) (Nat.le_refl _) (.int .i64 sw))
  have HH : Hid (∀ k, k ≠ q → ((((((((V2.setCell ⟨q, 4, none⟩ (.int .i64 sk)).setCell ⟨q, 5, none⟩ (.int .i64 v0)).setCell ⟨q, 6, none⟩ (.int .i64 v1)).setCell ⟨q, 7, none⟩ (.int .i64 v2)).setCell ⟨q, 8, none⟩ (.int .i64 v3)).setCell ⟨q, 9, none⟩ (.int .i64 v4)).setCell ⟨q, 10, none⟩ (.int .i64 v5)).setCell ⟨q, 11, none⟩ (.int .i64 sw)).heap[k]? = V2.heap[k]?) := fun k hk => by
    refine (Below.heap_setCell _ ⟨q, 11, none⟩ _ _ hk).trans ?_
    refine (Below.heap_setCell _ ⟨q, 10, none⟩ _ _ hk).trans ?_
    refine (Below.heap_setCell _ ⟨q, 9, none⟩ _ _ hk).trans ?_
    refine (Below.heap_setCell _ ⟨q, 8, none⟩ _ _ hk).trans ?_
    refine (Below.heap_setCell _ ⟨q, 7, none⟩ _ _ hk).trans ?_
    refine (Below.heap_setCell _ ⟨q, 6, none⟩ _ _ hk).trans ?_
    refine (Below.heap_setCell _ ⟨q, 5, none⟩ _ _ hk).trans ?_
    refine (Below.heap_setCell _ ⟨q, 4, none⟩ _ _ hk).trans ?_
    rfl
  go_wp2
  exact bodyPost_end (v := .tuple #[]) (by simp [results, Tryd.results82, go_sem]) rfl ⟨rfl, (Below.mono HBL.out (Nat.le_of_lt hqw)).trans (HBWV2.out.trans HG.out), fun k hk1 hk => (HH.out k hk).trans ((HOV2.out k hk).trans (Below.block HBL.out k hk1)), HF.out⟩

end Go.Proofs.YtefajplbgmikdaaDoor
