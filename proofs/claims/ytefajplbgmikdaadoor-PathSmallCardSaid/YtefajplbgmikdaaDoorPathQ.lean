/-
  The walk of path.Parse.
-/
import Derived.Test.YtefajplbgmikdaaDoorPathP
namespace Go.Proofs.YtefajplbgmikdaaDoor
open Go.RowKit

/-- A row of parts of a path, of the call's own, behind 'base'. -/
def SRow (w : World) (base : Nat) (v : Value) (l : List Sg) : Prop := w.ownsRow base 36 8 v l.length (l.flatMap sgC)
theorem SRow.bel {w w' : World} {base : Nat} {v : Value} {l : List Sg} (h : SRow w base v l) (hb : Bel w w') : SRow w' base v l := Bel.own hb h
theorem infoSeg : (Tryd.prog.info? 36).map (fun i => (i.zero, i.size, i.bytes)) = some (some (.agg #[.int .i64 0, .int .i64 0, .int .i64 0, .int .i64 0, .int .i64 0, .int .i64 0, .int .i64 0, .int .i64 0]), 8, 64) := by kernel_rfl
/-- What Parse tells. -/
def ParsePost (w : World) (R : Except (Int × Int) (List Sg)) (e : Ending) (w' : World) : Prop :=
  Bel w w' ∧ match R with
    | .ok l => ∃ v, e = .returned (.tuple #[v, .int .i64 0, .int .i64 0]) ∧ SRow w' w.heap.size v l
    | .error (a, c) => e = .returned (.tuple #[.slice none 0 0, .int .i64 a, .int .i64 c])
theorem flat_at {α β : Type} {f : α → List β} {n : Nat} : ∀ {l : List α} {k j : Nat} {x : α} {v : β}, (∀ y ∈ l, (f y).length = n) → l[k]? = some x → (f x)[j]? = some v → (l.flatMap f)[k * n + j]? = some v
  | [], k, j, x, v, _, h, _ => by simp at h
  | y :: l, 0, j, x, v, hf, h, hj => by
    simp only [List.getElem?_cons_zero, Option.some.injEq] at h
    subst h
    rw [List.flatMap_cons, Nat.zero_mul, Nat.zero_add, List.getElem?_append_left (List.getElem?_eq_some_iff.1 hj).1]
    exact hj
  | y :: l, k + 1, j, x, v, hf, h, hj => by
    have hy := hf y (by simp)
    rw [List.flatMap_cons, List.getElem?_append_right (by rw [hy, Nat.succ_mul]; omega), hy, show (k + 1) * n + j - n = k * n + j by rw [Nat.succ_mul]; omega]
    exact flat_at (fun z hz => hf z (by simp [hz])) (by simpa using h) hj
/-- The cells of part i of the parts that were read. -/
theorem PRow.at {w : World} {r : Nat} {pv : Value} {ps : List Part} (h : PRow w r pv ps) {k : Nat} {x : Part} (hk : ps[k]? = some x) : ∃ g cap nv, pv = .slice (some ⟨g, 0, none⟩) ps.length cap ∧ r < g ∧ g < w.heap.size ∧ TokRow w w.heap.size nv x.nums ∧
    (w.cell? ⟨g, k * 6, none⟩ = some (.int .u8 x.r.name) ∧ w.cell? ⟨g, k * 6 + 1, none⟩ = some (.int .i64 x.r.count) ∧ w.cell? ⟨g, k * 6 + 2, none⟩ = some (.int .i64 x.r.kind) ∧ w.cell? ⟨g, k * 6 + 3, none⟩ = some (.bool x.small) ∧ w.cell? ⟨g, k * 6 + 4, none⟩ = some (.int .i64 x.place) ∧ w.cell? ⟨g, k * 6 + 5, none⟩ = some nv) := by
  obtain ⟨qs, hq, ⟨hlen, ho⟩, hn⟩ := h
  have hql : qs.length = ps.length := by rw [← hq]; simp
  obtain ⟨hlt, hxe⟩ := List.getElem?_eq_some_iff.1 hk
  rcases ho with h0 | ⟨g, cap, cur, rfl, hb, hg, hnc, _, hsz, ht⟩
  · omega
  · have hkq : k < qs.length := by omega
    have hqx : (qs[k]'hkq).1 = x := by
      have : (qs.map Prod.fst)[k]'(by simpa using hkq) = x := by simp only [hq]; exact hxe
      simpa using this
    have hnx := hn _ (List.getElem_mem hkq)
    rw [hqx] at hnx
    have htr : TokRow w w.heap.size (qs[k]'hkq).2 x.nums := by
      obtain ⟨hl2, h0 | ⟨g2, cap2, cur2, e2, hb2, hg2, hn2, _, hs2, ht2⟩⟩ := hnx
      · exact ⟨none, 0, by rw [h0.1, h0.2], by omega, .inl (List.eq_nil_of_length_eq_zero h0.2)⟩
      · refine ⟨_, cap2, e2, hn2, .inr ⟨g2, 0, rfl, heap_lt hg2, fun i t hi j v hj => ?_⟩⟩
        rw [heap_cell hg2, ← Array.getElem?_toList]
        have hj4 : j < 4 := by
          have := (List.getElem?_eq_some_iff.1 hj).1
          simpa [tokC] using this
        obtain ⟨hil, _⟩ := List.getElem?_eq_some_iff.1 hi
        have h3 : (toksC x.nums)[i * 4 + j]? = some v := flat_at (f := tokC) (n := 4) (fun _ _ => rfl) hi hj
        rw [← ht2, List.getElem?_take] at h3
        split at h3
        · rw [Nat.zero_add]; exact h3
        · cases h3
    have hcell : ∀ j v, (partC (qs[k]'hkq))[j]? = some v → w.cell? ⟨g, k * 6 + j, none⟩ = some v := by
      intro j v hj
      rw [heap_cell hg, ← Array.getElem?_toList]
      have h3 : (partsC qs)[k * 6 + j]? = some v := flat_at (f := partC) (n := 6) (fun _ _ => rfl) (List.getElem?_eq_getElem hkq) hj
      rw [← ht, List.getElem?_take] at h3
      split at h3
      · exact h3
      · cases h3
    subst hqx
    exact ⟨g, cap, (qs[k]'hkq).2, rfl, by omega, heap_lt hg, htr, hcell 0 _ rfl, hcell 1 _ rfl, hcell 2 _ rfl, hcell 3 _ rfl, hcell 4 _ rfl, hcell 5 _ rfl⟩
end Go.Proofs.YtefajplbgmikdaaDoor
