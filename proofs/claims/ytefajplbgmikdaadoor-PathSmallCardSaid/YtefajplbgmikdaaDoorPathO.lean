/-
  What seg's frame is.
-/
import Derived.Test.YtefajplbgmikdaaDoorTextGood
import Derived.Deep.CutRange
import Derived.Deep.CutBlock
import Derived.Laws.CopyOwn
namespace Go.Proofs.YtefajplbgmikdaaDoor
open Go.RowKit

/-- The three boxes of seg: the part's, the result's, the kept part's. -/
structure Sb (w V : World) (x : Part) (nv : Value) (cs : List Value) : Prop where
  bel : Bel w V
  part : V.heap[w.heap.size]? = some (.cells (partC (x, nv)).toArray 123 (0, 0))
  res : V.heap[w.heap.size + 1]? = some (.cells #[.int .i64 0, .int .i64 0, .int .i64 0, .int .i64 0, .int .i64 0, .int .i64 0, .int .i64 0, .int .i64 0] 36 (0, 0))
  seg : V.heap[w.heap.size + 2]? = some (.cells cs.toArray 36 (0, 0))
theorem Sb.size {w V : World} {x : Part} {nv : Value} {cs : List Value} (h : Sb w V x nv cs) : w.heap.size + 3 ≤ V.heap.size := heap_lt h.seg
theorem Sb.on {w V V' : World} {x : Part} {nv : Value} {cs : List Value} (h : Sb w V x nv cs) (hb : Bel V V') : Sb w V' x nv cs := ⟨h.bel.trans hb, hb.heap h.part, hb.heap h.res, hb.heap h.seg⟩
/-- A later world that kept those below. -/
theorem Sb.grown {w V V' : World} {x : Part} {nv : Value} {cs : List Value} {row : Option Nat} (h : Sb w V x nv cs) (hg : V.grownBy V' row) (hr : ∀ k, row = some k → w.heap.size + 3 ≤ k) : Sb w V' x nv cs := by
  have hs := h.size
  have hk : ∀ k, k < w.heap.size + 3 → V'.heap[k]? = V.heap[k]? := fun k hk => hg.block k (by omega) (fun e => by have := hr k e.symm; omega)
  exact ⟨But.bel h.bel hg (fun k e => by have := hr k e; omega), (hk _ (by omega)).trans h.part, (hk _ (by omega)).trans h.res, (hk _ (by omega)).trans h.seg⟩
theorem seg_zero (w : World) (x : Part) (nv : Value) (cs : List Value) : Sb w (((w.alloc (.cells (partC (x, nv)).toArray 123)).alloc (.cells #[.int .i64 0, .int .i64 0, .int .i64 0, .int .i64 0, .int .i64 0, .int .i64 0, .int .i64 0, .int .i64 0] 36)).alloc (.cells cs.toArray 36)) x nv cs := by
  refine ⟨(((Bel.refl w).alloc _).alloc _).alloc _, heap_push_of (heap_push_of (heap_alloc_new _ _) _) _, heap_push_of ?_ _, ?_⟩
  · have := heap_alloc_new (w.alloc (.cells (partC (x, nv)).toArray 123)) (.cells #[.int .i64 0, .int .i64 0, .int .i64 0, .int .i64 0, .int .i64 0, .int .i64 0, .int .i64 0, .int .i64 0] 36)
    simpa using this
  · have := heap_alloc_new ((w.alloc (.cells (partC (x, nv)).toArray 123)).alloc (.cells #[.int .i64 0, .int .i64 0, .int .i64 0, .int .i64 0, .int .i64 0, .int .i64 0, .int .i64 0, .int .i64 0] 36)) (.cells cs.toArray 36)
    simpa using this
theorem Sb.x {w V : World} {x : Part} {nv : Value} {cs : List Value} (h : Sb w V x nv cs) : (V.cell? ⟨w.heap.size, 0, none⟩ = some (.int .u8 x.r.name) ∧ V.cell? ⟨w.heap.size, 1, none⟩ = some (.int .i64 x.r.count) ∧ V.cell? ⟨w.heap.size, 2, none⟩ = some (.int .i64 x.r.kind) ∧ V.cell? ⟨w.heap.size, 3, none⟩ = some (.bool x.small) ∧ V.cell? ⟨w.heap.size, 4, none⟩ = some (.int .i64 x.place) ∧ V.cell? ⟨w.heap.size, 5, none⟩ = some nv) :=
  ⟨by rw [heap_cell h.part]; rfl, by rw [heap_cell h.part]; rfl, by rw [heap_cell h.part]; rfl, by rw [heap_cell h.part]; rfl, by rw [heap_cell h.part]; rfl, by rw [heap_cell h.part]; rfl⟩
theorem Sb.r {w V : World} {x : Part} {nv : Value} {cs : List Value} (h : Sb w V x nv cs) : (V.cell? ⟨w.heap.size + 1, 0, none⟩ = some (.int .i64 0) ∧ V.cell? ⟨w.heap.size + 1, 1, none⟩ = some (.int .i64 0) ∧ V.cell? ⟨w.heap.size + 1, 2, none⟩ = some (.int .i64 0) ∧ V.cell? ⟨w.heap.size + 1, 3, none⟩ = some (.int .i64 0) ∧ V.cell? ⟨w.heap.size + 1, 4, none⟩ = some (.int .i64 0) ∧ V.cell? ⟨w.heap.size + 1, 5, none⟩ = some (.int .i64 0) ∧ V.cell? ⟨w.heap.size + 1, 6, none⟩ = some (.int .i64 0) ∧ V.cell? ⟨w.heap.size + 1, 7, none⟩ = some (.int .i64 0)) ∧ ∀ j, V.frozen? ⟨w.heap.size + 1, j, none⟩ = false :=
  ⟨⟨by rw [heap_cell h.res]; rfl, by rw [heap_cell h.res]; rfl, by rw [heap_cell h.res]; rfl, by rw [heap_cell h.res]; rfl, by rw [heap_cell h.res]; rfl, by rw [heap_cell h.res]; rfl, by rw [heap_cell h.res]; rfl, by rw [heap_cell h.res]; rfl⟩, fun j => heap_frozen h.res j⟩
theorem Sb.s {w V : World} {x : Part} {nv a0 a1 a2 a3 a4 a5 a6 a7 : Value} (h : Sb w V x nv [a0, a1, a2, a3, a4, a5, a6, a7]) : (V.cell? ⟨w.heap.size + 1 + 1, 0, none⟩ = some a0 ∧ V.cell? ⟨w.heap.size + 1 + 1, 1, none⟩ = some a1 ∧ V.cell? ⟨w.heap.size + 1 + 1, 2, none⟩ = some a2 ∧ V.cell? ⟨w.heap.size + 1 + 1, 3, none⟩ = some a3 ∧ V.cell? ⟨w.heap.size + 1 + 1, 4, none⟩ = some a4 ∧ V.cell? ⟨w.heap.size + 1 + 1, 5, none⟩ = some a5 ∧ V.cell? ⟨w.heap.size + 1 + 1, 6, none⟩ = some a6 ∧ V.cell? ⟨w.heap.size + 1 + 1, 7, none⟩ = some a7) ∧ ∀ j, V.frozen? ⟨w.heap.size + 1 + 1, j, none⟩ = false :=
  ⟨⟨by rw [heap_cell h.seg]; rfl, by rw [heap_cell h.seg]; rfl, by rw [heap_cell h.seg]; rfl, by rw [heap_cell h.seg]; rfl, by rw [heap_cell h.seg]; rfl, by rw [heap_cell h.seg]; rfl, by rw [heap_cell h.seg]; rfl, by rw [heap_cell h.seg]; rfl⟩, fun j => heap_frozen h.seg j⟩
/-- A row of numbers of the call's own. -/
def VRow (w : World) (base : Nat) (v : Value) (l : List Int) : Prop := w.ownsRow base 2 1 v l.length (l.map (Value.int .i64))
theorem VRow.nil (w : World) (base : Nat) : VRow w base (.slice none 0 0) [] := World.ownsRow_nil _ _ _ _
theorem VRow.two {V : World} {base g : Nat} {a b : Int} (h : V.heap[g]? = some (.cells #[.int .i64 a, .int .i64 b] 2 (0, 0))) (hb : base ≤ g) : VRow V base (.slice (some ⟨g, 0, none⟩) 2 2) [a, b] :=
  ⟨rfl, .inr ⟨g, 2, _, rfl, hb, h, Nat.le_refl _, by decide, rfl, rfl⟩⟩
theorem VRow.bel {w w' : World} {base : Nat} {v : Value} {l : List Int} (h : VRow w base v l) (hb : Bel w w') : VRow w' base v l := Bel.own hb h
/-- What seg tells. -/
def SegPost (_ : Pen) (q : Nat) (w : World) (R : Except Int (Sg × Pen)) (e : Ending) (w' : World) : Prop :=
  Below q w w' ∧ KeepBut q w w' ∧ match R with
    | .ok (s, p') => e = .returned (.tuple #[.agg (sgC s).toArray, .pointer none]) ∧ Pn w' q p'
    | .error a => ∃ (c c0 c1 c2 c3 c4 c5 cw : Int) (b : Nat), e = .returned (.tuple #[.agg #[.int .i64 c, .int .i64 c0, .int .i64 c1, .int .i64 c2, .int .i64 c3, .int .i64 c4, .int .i64 c5, .int .i64 cw], .pointer (some ⟨b, 0, none⟩)]) ∧ w'.heap[b]? = some (.cells #[.int .i64 a, .int .i64 21] 116 (0, 0))
theorem Bel.keepBut {w w' : World} {q : Nat} (h : Bel w w') : KeepBut q w w' := fun k hk _ => Below.block h k hk
theorem seg_bad {w V : World} {q b : Nat} {p : Pen} {R : Except Int (Sg × Pen)} {a c c0 c1 c2 c3 c4 c5 cw : Int} (hb : Bel w V) (hq : q < w.heap.size) (hR : R = .error a) (hw : V.heap[b]? = some (.cells #[.int .i64 a, .int .i64 21] 116 (0, 0))) :
    SegPost p q w R (.returned (.tuple #[.agg #[.int .i64 c, .int .i64 c0, .int .i64 c1, .int .i64 c2, .int .i64 c3, .int .i64 c4, .int .i64 c5, .int .i64 cw], .pointer (some ⟨b, 0, none⟩)])) V := by
  subst hR
  exact ⟨Below.mono hb (by omega), hb.keepBut, c, c0, c1, c2, c3, c4, c5, cw, b, rfl, hw⟩
end Go.Proofs.YtefajplbgmikdaaDoor
