/-
  The walks of path.counts and path.good.
-/
import Derived.Test.YtefajplbgmikdaaDoorTextGood
namespace Go.Proofs.YtefajplbgmikdaaDoor
open Go.RowKit

def CNT : Array Value := #[.int .i64 0, .int .i64 2, .int .i64 2, .int .i64 4, .int .i64 6, .int .i64 4, .int .i64 0]
set_option maxRecDepth 100000 in
theorem counts_any (w : World) : Calls Tryd.prog 31 #[] w fun e w' => e = .returned (.agg #[.int .i64 0, .int .i64 2, .int .i64 2, .int .i64 4, .int .i64 6, .int .i64 4, .int .i64 0]) ∧ Bel w w' := by
  have h : ∀ V, V = w.alloc (.cells #[.int .i64 0, .int .i64 2, .int .i64 2, .int .i64 4, .int .i64 6, .int .i64 4, .int .i64 0] 61) → (V.cell? ⟨w.heap.size, 0, none⟩ = some (.int .i64 0) ∧ V.cell? ⟨w.heap.size, 1, none⟩ = some (.int .i64 2) ∧ V.cell? ⟨w.heap.size, 2, none⟩ = some (.int .i64 2) ∧ V.cell? ⟨w.heap.size, 3, none⟩ = some (.int .i64 4) ∧ V.cell? ⟨w.heap.size, 4, none⟩ = some (.int .i64 6) ∧ V.cell? ⟨w.heap.size, 5, none⟩ = some (.int .i64 4) ∧ V.cell? ⟨w.heap.size, 6, none⟩ = some (.int .i64 0)) ∧ Bel w V := by
    rintro V rfl
    have hh := heap_alloc_new w (.cells #[.int .i64 0, .int .i64 2, .int .i64 2, .int .i64 4, .int .i64 6, .int .i64 4, .int .i64 0] 61)
    exact ⟨⟨heap_cell hh 0, heap_cell hh 1, heap_cell hh 2, heap_cell hh 3, heap_cell hh 4, heap_cell hh 5, heap_cell hh 6⟩, (Bel.refl w).alloc _⟩
  have HH := Lib.hid h
  clear h
  go_enter Tryd.func31, Tryd.ntmps31
  go_wp2
  have hz := HH.out _ rfl
  generalize w.alloc (.cells #[.int .i64 0, .int .i64 2, .int .i64 2, .int .i64 4, .int .i64 6, .int .i64 4, .int .i64 0] 61) = V at hz ⊢
  obtain ⟨⟨c0, c1, c2, c3, c4, c5, c6⟩, hb⟩ := hz
  exact bodyPost_ret (v := .agg #[.int .i64 0, .int .i64 2, .int .i64 2, .int .i64 4, .int .i64 6, .int .i64 4, .int .i64 0]) (by simp [results, Tryd.results31, go_sem, c0, c1, c2, c3, c4, c5, c6]) rfl ⟨rfl, hb⟩
theorem cnt1 (w : World) : (Instr.index 61 (.agg #[.int .i64 0, .int .i64 2, .int .i64 2, .int .i64 4, .int .i64 6, .int .i64 4, .int .i64 0]) (.int .i64 1)).run Tryd.prog w = .ok (.int .i64 2) w := by kernel_rfl
theorem cnt2 (w : World) : (Instr.index 61 (.agg #[.int .i64 0, .int .i64 2, .int .i64 2, .int .i64 4, .int .i64 6, .int .i64 4, .int .i64 0]) (.int .i64 2)).run Tryd.prog w = .ok (.int .i64 2) w := by kernel_rfl
theorem cnt3 (w : World) : (Instr.index 61 (.agg #[.int .i64 0, .int .i64 2, .int .i64 2, .int .i64 4, .int .i64 6, .int .i64 4, .int .i64 0]) (.int .i64 3)).run Tryd.prog w = .ok (.int .i64 4) w := by kernel_rfl
theorem cnt4 (w : World) : (Instr.index 61 (.agg #[.int .i64 0, .int .i64 2, .int .i64 2, .int .i64 4, .int .i64 6, .int .i64 4, .int .i64 0]) (.int .i64 4)).run Tryd.prog w = .ok (.int .i64 6) w := by kernel_rfl
theorem cnt5 (w : World) : (Instr.index 61 (.agg #[.int .i64 0, .int .i64 2, .int .i64 2, .int .i64 4, .int .i64 6, .int .i64 4, .int .i64 0]) (.int .i64 5)).run Tryd.prog w = .ok (.int .i64 4) w := by kernel_rfl
theorem cnt6 (w : World) : (Instr.index 61 (.agg #[.int .i64 0, .int .i64 2, .int .i64 2, .int .i64 4, .int .i64 6, .int .i64 4, .int .i64 0]) (.int .i64 6)).run Tryd.prog w = .ok (.int .i64 0) w := by kernel_rfl
theorem six0 (v0 v1 v2 v3 v4 v5 : Int) (w : World) : (Instr.index 34 (.agg #[.int .i64 v0, .int .i64 v1, .int .i64 v2, .int .i64 v3, .int .i64 v4, .int .i64 v5]) (.int .i64 0)).run Tryd.prog w = .ok (.int .i64 v0) w := by kernel_rfl
theorem six1 (v0 v1 v2 v3 v4 v5 : Int) (w : World) : (Instr.index 34 (.agg #[.int .i64 v0, .int .i64 v1, .int .i64 v2, .int .i64 v3, .int .i64 v4, .int .i64 v5]) (.int .i64 1)).run Tryd.prog w = .ok (.int .i64 v1) w := by kernel_rfl
theorem six2 (v0 v1 v2 v3 v4 v5 : Int) (w : World) : (Instr.index 34 (.agg #[.int .i64 v0, .int .i64 v1, .int .i64 v2, .int .i64 v3, .int .i64 v4, .int .i64 v5]) (.int .i64 2)).run Tryd.prog w = .ok (.int .i64 v2) w := by kernel_rfl
theorem six3 (v0 v1 v2 v3 v4 v5 : Int) (w : World) : (Instr.index 34 (.agg #[.int .i64 v0, .int .i64 v1, .int .i64 v2, .int .i64 v3, .int .i64 v4, .int .i64 v5]) (.int .i64 3)).run Tryd.prog w = .ok (.int .i64 v3) w := by kernel_rfl
theorem six4 (v0 v1 v2 v3 v4 v5 : Int) (w : World) : (Instr.index 34 (.agg #[.int .i64 v0, .int .i64 v1, .int .i64 v2, .int .i64 v3, .int .i64 v4, .int .i64 v5]) (.int .i64 4)).run Tryd.prog w = .ok (.int .i64 v4) w := by kernel_rfl
theorem six5 (v0 v1 v2 v3 v4 v5 : Int) (w : World) : (Instr.index 34 (.agg #[.int .i64 v0, .int .i64 v1, .int .i64 v2, .int .i64 v3, .int .i64 v4, .int .i64 v5]) (.int .i64 5)).run Tryd.prog w = .ok (.int .i64 v5) w := by kernel_rfl
theorem cnt_at (k : Int) (h1 : 1 ≤ k) (h2 : k ≤ 6) (w : World) : (Instr.index 61 (.agg #[.int .i64 0, .int .i64 2, .int .i64 2, .int .i64 4, .int .i64 6, .int .i64 4, .int .i64 0]) (.int .i64 k)).run Tryd.prog w = .ok (.int .i64 (countK k)) w := by
  have : k = 1 ∨ k = 2 ∨ k = 3 ∨ k = 4 ∨ k = 5 ∨ k = 6 := by omega
  rcases this with rfl | rfl | rfl | rfl | rfl | rfl
  · exact cnt1 w
  · exact cnt2 w
  · exact cnt3 w
  · exact cnt4 w
  · exact cnt5 w
  · exact cnt6 w
theorem six_at (v0 v1 v2 v3 v4 v5 : Int) (k : Nat) (x : Int) (h : [v0, v1, v2, v3, v4, v5][k]? = some x) (w : World) : (Instr.index 34 (.agg #[.int .i64 v0, .int .i64 v1, .int .i64 v2, .int .i64 v3, .int .i64 v4, .int .i64 v5]) (.int .i64 k)).run Tryd.prog w = .ok (.int .i64 x) w := by
  have hk := (List.getElem?_eq_some_iff.1 h).1
  simp only [List.length_cons, List.length_nil] at hk
  have : k = 0 ∨ k = 1 ∨ k = 2 ∨ k = 3 ∨ k = 4 ∨ k = 5 := by omega
  rcases this with rfl | rfl | rfl | rfl | rfl | rfl
  · simp at h; subst h; exact six0 _ _ _ _ _ _ w
  · simp at h; subst h; exact six1 _ _ _ _ _ _ w
  · simp at h; subst h; exact six2 _ _ _ _ _ _ w
  · simp at h; subst h; exact six3 _ _ _ _ _ _ w
  · simp at h; subst h; exact six4 _ _ _ _ _ _ w
  · simp at h; subst h; exact six5 _ _ _ _ _ _ w
end Go.Proofs.YtefajplbgmikdaaDoor
