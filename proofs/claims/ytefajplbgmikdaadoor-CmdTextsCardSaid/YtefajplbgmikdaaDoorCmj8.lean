/-
  What seg's frame is.
-/
import Derived.Test.YtefajplbgmikdaaDoorCmj5
import Derived.Deep.CutRange
import Derived.Deep.CutBlock
import Derived.Laws.CopyOwn
import Derived.Test.YtefajplbgmikdaaDoorCmj4
namespace Go.Proofs.YtefajplbgmikdaaDoor
open Go.RowKit

/-- The three boxes of seg: the part's, the result's, the kept part's. -/
structure Sb (w V : World) (x : Part) (nv : Value) (cs : List Value) : Prop where
  bel : Bel w V
  part : V.heap[w.heap.size]? = some (.cells (partC (x, nv)).toArray 123 (0, 0))
  res : V.heap[w.heap.size + 1]? = some (.cells #[.int .i64 0, .int .i64 0, .int .i64 0, .int .i64 0, .int .i64 0, .int .i64 0, .int .i64 0, .int .i64 0] 36 (0, 0))
  seg : V.heap[w.heap.size + 2]? = some (.cells cs.toArray 36 (0, 0))
theorem Sb.size {w V : World} {x : Part} {nv : Value} {cs : List Value} (h : Sb w V x nv cs) : w.heap.size + 3 ≤ V.heap.size := heap_lt h.seg
theorem Sb.on {w V V' : World} {x : Part} {nv : Value} {cs : List Value} (h : Sb w V x nv cs) (hb : Bel V V') : Sb w V' x nv cs := ⟨h.bel.trans hb, hb.heap h.part, hb.heap h.res, hb.heap h.seg⟩
/-- A later world that kept those below. -/
theorem Sb.grown {w V V' : World} {x : Part} {nv : Value} {cs : List Value} {row : Option Nat} (h : Sb w V x nv cs) (hg : V.grownBy V' row) (hr : ∀ k, row = some k → w.heap.size + 3 ≤ k) : Sb w V' x nv cs := by
  have hs := h.size
  have hk : ∀ k, k < w.heap.size + 3 → V'.heap[k]? = V.heap[k]? := fun k hk => hg.block k (by omega) (fun e => by have := hr k e.symm; omega)
  exact ⟨But.bel h.bel hg (fun k e => by have := hr k e; omega), (hk _ (by omega)).trans h.part, (hk _ (by omega)).trans h.res, (hk _ (by omega)).trans h.seg⟩
theorem seg_zero (w : World) (x : Part) (nv : Value) (cs : List Value) : Sb w (((w.alloc (.cells (partC (x, nv)).toArray 123)).alloc (.cells #[.int .i64 0, .int .i64 0, .int .i64 0, .int .i64 0, .int .i64 0, .int .i64 0, .int .i64 0, .int .i64 0] 36)).alloc (.cells cs.toArray 36)) x nv cs := by
  refine ⟨(((Bel.refl w).alloc _).alloc _).alloc _, heap_push_of (heap_push_of (heap_alloc_new _ _) _) _, heap_push_of ?_ _, ?_⟩
  · have := heap_alloc_new (w.alloc (.cells (partC (x, nv)).toArray 123)) (.cells #[.int .i64 0, .int .i64 0, .int .i64 0, .int .i64 0, .int .i64 0, .int .i64 0, .int .i64 0, .int .i64 0] 36)
    simpa using this
  · have := heap_alloc_new ((w.alloc (.cells (partC (x, nv)).toArray 123)).alloc (.cells #[.int .i64 0, .int .i64 0, .int .i64 0, .int .i64 0, .int .i64 0, .int .i64 0, .int .i64 0, .int .i64 0] 36)) (.cells cs.toArray 36)
    simpa using this
theorem Sb.x {w V : World} {x : Part} {nv : Value} {cs : List Value} (h : Sb w V x nv cs) : (V.cell? ⟨w.heap.size, 0, none⟩ = some (.int .u8 x.r.name) ∧ V.cell? ⟨w.heap.size, 1, none⟩ = some (.int .i64 x.r.count) ∧ V.cell? ⟨w.heap.size, 2, none⟩ = some (.int .i64 x.r.kind) ∧ V.cell? ⟨w.heap.size, 3, none⟩ = some (.bool x.small) ∧ V.cell? ⟨w.heap.size, 4, none⟩ = some (.int .i64 x.place) ∧ V.cell? ⟨w.heap.size, 5, none⟩ = some nv) :=
  ⟨by rw [heap_cell h.part]; rfl, by rw [heap_cell h.part]; rfl, by rw [heap_cell h.part]; rfl, by rw [heap_cell h.part]; rfl, by rw [heap_cell h.part]; rfl, by rw [heap_cell h.part]; rfl⟩
theorem Sb.r {w V : World} {x : Part} {nv : Value} {cs : List Value} (h : Sb w V x nv cs) : (V.cell? ⟨w.heap.size + 1, 0, none⟩ = some (.int .i64 0) ∧ V.cell? ⟨w.heap.size + 1, 1, none⟩ = some (.int .i64 0) ∧ V.cell? ⟨w.heap.size + 1, 2, none⟩ = some (.int .i64 0) ∧ V.cell? ⟨w.heap.size + 1, 3, none⟩ = some (.int .i64 0) ∧ V.cell? ⟨w.heap.size + 1, 4, none⟩ = some (.int .i64 0) ∧ V.cell? ⟨w.heap.size + 1, 5, none⟩ = some (.int .i64 0) ∧ V.cell? ⟨w.heap.size + 1, 6, none⟩ = some (.int .i64 0) ∧ V.cell? ⟨w.heap.size + 1, 7, none⟩ = some (.int .i64 0)) ∧ ∀ j, V.frozen? ⟨w.heap.size + 1, j, none⟩ = false :=
  ⟨⟨by rw [heap_cell h.res]; rfl, by rw [heap_cell h.res]; rfl, by rw [heap_cell h.res]; rfl, by rw [heap_cell h.res]; rfl, by rw [heap_cell h.res]; rfl, by rw [heap_cell h.res]; rfl, by rw [heap_cell h.res]; rfl, by rw [heap_cell h.res]; rfl⟩, fun j => heap_frozen h.res j⟩
theorem Sb.s {w V : World} {x : Part} {nv a0 a1 a2 a3 a4 a5 a6 a7 : Value} (h : Sb w V x nv [a0, a1, a2, a3, a4, a5, a6, a7]) : (V.cell? ⟨w.heap.size + 1 + 1, 0, none⟩ = some a0 ∧ V.cell? ⟨w.heap.size + 1 + 1, 1, none⟩ = some a1 ∧ V.cell? ⟨w.heap.size + 1 + 1, 2, none⟩ = some a2 ∧ V.cell? ⟨w.heap.size + 1 + 1, 3, none⟩ = some a3 ∧ V.cell? ⟨w.heap.size + 1 + 1, 4, none⟩ = some a4 ∧ V.cell? ⟨w.heap.size + 1 + 1, 5, none⟩ = some a5 ∧ V.cell? ⟨w.heap.size + 1 + 1, 6, none⟩ = some a6 ∧ V.cell? ⟨w.heap.size + 1 + 1, 7, none⟩ = some a7) ∧ ∀ j, V.frozen? ⟨w.heap.size + 1 + 1, j, none⟩ = false :=
  ⟨⟨by rw [heap_cell h.seg]; rfl, by rw [heap_cell h.seg]; rfl, by rw [heap_cell h.seg]; rfl, by rw [heap_cell h.seg]; rfl, by rw [heap_cell h.seg]; rfl, by rw [heap_cell h.seg]; rfl, by rw [heap_cell h.seg]; rfl, by rw [heap_cell h.seg]; rfl⟩, fun j => heap_frozen h.seg j⟩
/-- A row of numbers of the call's own. -/
def VRow (w : World) (base : Nat) (v : Value) (l : List Int) : Prop := w.ownsRow base 2 1 v l.length (l.map (Value.int .i64))
theorem VRow.nil (w : World) (base : Nat) : VRow w base (.slice none 0 0) [] := World.ownsRow_nil _ _ _ _
theorem VRow.two {V : World} {base g : Nat} {a b : Int} (h : V.heap[g]? = some (.cells #[.int .i64 a, .int .i64 b] 2 (0, 0))) (hb : base ≤ g) : VRow V base (.slice (some ⟨g, 0, none⟩) 2 2) [a, b] :=
  ⟨rfl, .inr ⟨g, 2, _, rfl, hb, h, Nat.le_refl _, by decide, rfl, rfl⟩⟩
theorem VRow.bel {w w' : World} {base : Nat} {v : Value} {l : List Int} (h : VRow w base v l) (hb : Bel w w') : VRow w' base v l := Bel.own hb h
/-- What seg tells. -/
def SegPost (_ : Pen) (q : Nat) (w : World) (R : Except Int (Sg × Pen)) (e : Ending) (w' : World) : Prop :=
  Below q w w' ∧ KeepBut q w w' ∧ match R with
    | .ok (s, p') => e = .returned (.tuple #[.agg (sgC s).toArray, .pointer none]) ∧ Pn w' q p'
    | .error a => ∃ (c c0 c1 c2 c3 c4 c5 cw : Int) (b : Nat), e = .returned (.tuple #[.agg #[.int .i64 c, .int .i64 c0, .int .i64 c1, .int .i64 c2, .int .i64 c3, .int .i64 c4, .int .i64 c5, .int .i64 cw], .pointer (some ⟨b, 0, none⟩)]) ∧ w'.heap[b]? = some (.cells #[.int .i64 a, .int .i64 21] 116 (0, 0))
theorem Bel.keepBut {w w' : World} {q : Nat} (h : Bel w w') : KeepBut q w w' := fun k hk _ => Below.block h k hk
theorem seg_bad {w V : World} {q b : Nat} {p : Pen} {R : Except Int (Sg × Pen)} {a c c0 c1 c2 c3 c4 c5 cw : Int} (hb : Bel w V) (hq : q < w.heap.size) (hR : R = .error a) (hw : V.heap[b]? = some (.cells #[.int .i64 a, .int .i64 21] 116 (0, 0))) :
    SegPost p q w R (.returned (.tuple #[.agg #[.int .i64 c, .int .i64 c0, .int .i64 c1, .int .i64 c2, .int .i64 c3, .int .i64 c4, .int .i64 c5, .int .i64 cw], .pointer (some ⟨b, 0, none⟩)])) V := by
  subst hR
  exact ⟨Below.mono hb (by omega), hb.keepBut, c, c0, c1, c2, c3, c4, c5, cw, b, rfl, hw⟩
end Go.Proofs.YtefajplbgmikdaaDoor

/-
  The walk of the pen's move.
-/
namespace Go.Proofs.YtefajplbgmikdaaDoor
open Go.RowKit

set_option maxHeartbeats 2000000 in
set_option maxRecDepth 100000 in
theorem move_close (p : Pen) (hp : PenOk p) (s : Sg) (hs : SgOk s) (hk : s.kind = 6) (n : Nat) (q : Nat) (w : World) (h : Pn w q p) :
    Calls Tryd.prog 82 #[.pointer (some ⟨q, 0, none⟩), .agg (sgC s).toArray, .int .i64 n] w fun e w' => e = .returned (.tuple #[]) ∧ Below q w w' ∧ KeepBut q w w' ∧ Pn w' q (moveS p s n) := by
  obtain ⟨x, y, fx, fy, ⟨lk, lv, lw⟩⟩ := p
  obtain ⟨sk, sv, sw⟩ := s
  obtain ⟨l0, l1, l2, l3, l4, l5, rfl⟩ := six hp.last.1
  obtain ⟨v0, v1, v2, v3, v4, v5, rfl⟩ := six hs.1
  dsimp only at hk
  subst hk
  simp only [sgC, List.map_cons, List.map_nil, List.cons_append, List.nil_append]
  have hP := heap_push_of h (.cells #[.int .i64 6, .int .i64 v0, .int .i64 v1, .int .i64 v2, .int .i64 v3, .int .i64 v4, .int .i64 v5, .int .i64 sw] 36)
  have hB := heap_alloc_new w (.cells #[.int .i64 6, .int .i64 v0, .int .i64 v1, .int .i64 v2, .int .i64 v3, .int .i64 v4, .int .i64 v5, .int .i64 sw] 36)
  have hbl : Bel w (w.alloc (.cells #[.int .i64 6, .int .i64 v0, .int .i64 v1, .int .i64 v2, .int .i64 v3, .int .i64 v4, .int .i64 v5, .int .i64 sw] 36)) := (Bel.refl w).alloc _
  have hqB : q < w.heap.size := heap_lt h
  have HBL := Lib.hid hbl
  have hqw : q < w.heap.size := heap_lt h
  have HP := Lib.hid hP
  have HB := Lib.hid hB
  have HM : Hid (moveS ⟨x, y, fx, fy, ⟨lk, [l0, l1, l2, l3, l4, l5], lw⟩⟩ ⟨6, [v0, v1, v2, v3, v4, v5], sw⟩ n = ⟨fx, fy, fx, fy, ⟨6, [v0, v1, v2, v3, v4, v5], sw⟩⟩) := by
    unfold Hid moveS
    rfl
  rw [HM.out]
  clear hP hB hbl
  go_enter Tryd.func82, Tryd.ntmps82
  go_wp2_with fail
  generalize w.alloc (.cells #[.int .i64 6, .int .i64 v0, .int .i64 v1, .int .i64 v2, .int .i64 v3, .int .i64 v4, .int .i64 v5, .int .i64 sw] 36) = V at HB HP HBL ⊢
  obtain ⟨B, hBw⟩ : ∃ B, w.heap.size = B := ⟨_, rfl⟩
  rw [hBw] at HB hqB ⊢
  have HBw := Lib.hid hBw
  clear hBw
  have c0 : V.cell? ⟨q, 0, none⟩ = some (.int .i64 x) := by rw [heap_cell HP.out]; rfl
  have c1 : V.cell? ⟨q, 1, none⟩ = some (.int .i64 y) := by rw [heap_cell HP.out]; rfl
  have c2 : V.cell? ⟨q, 2, none⟩ = some (.int .i64 fx) := by rw [heap_cell HP.out]; rfl
  have c3 : V.cell? ⟨q, 3, none⟩ = some (.int .i64 fy) := by rw [heap_cell HP.out]; rfl
  have f := fun j => heap_frozen HP.out j
  go_region
  have hP2 : ((V.setCell ⟨q, 0, none⟩ (.int .i64 fx)).setCell ⟨q, 1, none⟩ (.int .i64 fy)).drew.heap[q]? = _ := heap_set (heap_set HP.out 0 (.int .i64 fx)) 1 (.int .i64 fy)
  simp only [penC, sgC, List.map_cons, List.map_nil, List.cons_append, List.nil_append, List.setIfInBounds_toArray, List.set_cons_succ, List.set_cons_zero] at hP2
  have hoff2 : ∀ k, k ≠ q → ((V.setCell ⟨q, 0, none⟩ (.int .i64 fx)).setCell ⟨q, 1, none⟩ (.int .i64 fy)).drew.heap[k]? = V.heap[k]? := fun k hk => (Below.heap_setCell _ ⟨q, 1, none⟩ _ _ hk).trans (Below.heap_setCell _ ⟨q, 0, none⟩ _ _ hk)
  have hb2 : Below q V ((V.setCell ⟨q, 0, none⟩ (.int .i64 fx)).setCell ⟨q, 1, none⟩ (.int .i64 fy)).drew := (((Below.refl q V).setCell (p := ⟨q, 0, none⟩) (Nat.le_refl _) _).setCell (p := ⟨q, 1, none⟩) (Nat.le_refl _) _).drew
  have hB2 := (hoff2 B (by omega)).trans HB.out
  have HP2 := Lib.hid hP2
  have HB2 := Lib.hid hB2
  have HOV2 := Lib.hid hoff2
  have HBWV2 := Lib.hid hb2
  clear hP2 hoff2 hb2 hB2 HP HB c0 c1 c2 c3 f
  have HP := HP2
  have HB := HB2
  clear HP2 HB2
  generalize ((V.setCell ⟨q, 0, none⟩ (.int .i64 fx)).setCell ⟨q, 1, none⟩ (.int .i64 fy)).drew = V2 at HP HB HOV2 HBWV2 ⊢
  have b0 : V2.cell? ⟨B, 0, none⟩ = some (.int .i64 6) := by rw [heap_cell HB.out]; rfl
  have b1 : V2.cell? ⟨B, 1, none⟩ = some (.int .i64 v0) := by rw [heap_cell HB.out]; rfl
  have b2 : V2.cell? ⟨B, 2, none⟩ = some (.int .i64 v1) := by rw [heap_cell HB.out]; rfl
  have b3 : V2.cell? ⟨B, 3, none⟩ = some (.int .i64 v2) := by rw [heap_cell HB.out]; rfl
  have b4 : V2.cell? ⟨B, 4, none⟩ = some (.int .i64 v3) := by rw [heap_cell HB.out]; rfl
  have b5 : V2.cell? ⟨B, 5, none⟩ = some (.int .i64 v4) := by rw [heap_cell HB.out]; rfl
  have b6 : V2.cell? ⟨B, 6, none⟩ = some (.int .i64 v5) := by rw [heap_cell HB.out]; rfl
  have b7 : V2.cell? ⟨B, 7, none⟩ = some (.int .i64 sw) := by rw [heap_cell HB.out]; rfl
  have p4 : V2.cell? ⟨q, 4, none⟩ = some (.int .i64 lk) := by rw [heap_cell HP.out]; rfl
  have p5 : V2.cell? ⟨q, 5, none⟩ = some (.int .i64 l0) := by rw [heap_cell HP.out]; rfl
  have p6 : V2.cell? ⟨q, 6, none⟩ = some (.int .i64 l1) := by rw [heap_cell HP.out]; rfl
  have p7 : V2.cell? ⟨q, 7, none⟩ = some (.int .i64 l2) := by rw [heap_cell HP.out]; rfl
  have p8 : V2.cell? ⟨q, 8, none⟩ = some (.int .i64 l3) := by rw [heap_cell HP.out]; rfl
  have p9 : V2.cell? ⟨q, 9, none⟩ = some (.int .i64 l4) := by rw [heap_cell HP.out]; rfl
  have p10 : V2.cell? ⟨q, 10, none⟩ = some (.int .i64 l5) := by rw [heap_cell HP.out]; rfl
  have p11 : V2.cell? ⟨q, 11, none⟩ = some (.int .i64 lw) := by rw [heap_cell HP.out]; rfl
  have f := fun j => heap_frozen HP.out j
  have hf := (heap_set (heap_set (heap_set (heap_set (heap_set (heap_set (heap_set (heap_set HP.out 4 (.int .i64 6)) 5 (.int .i64 v0)) 6 (.int .i64 v1)) 7 (.int .i64 v2)) 8 (.int .i64 v3)) 9 (.int .i64 v4)) 10 (.int .i64 v5)) 11 (.int .i64 sw))
  simp only [List.setIfInBounds_toArray, List.set_cons_succ, List.set_cons_zero] at hf
  have HF : Hid (Pn ((((((((V2.setCell ⟨q, 4, none⟩ (.int .i64 6)).setCell ⟨q, 5, none⟩ (.int .i64 v0)).setCell ⟨q, 6, none⟩ (.int .i64 v1)).setCell ⟨q, 7, none⟩ (.int .i64 v2)).setCell ⟨q, 8, none⟩ (.int .i64 v3)).setCell ⟨q, 9, none⟩ (.int .i64 v4)).setCell ⟨q, 10, none⟩ (.int .i64 v5)).setCell ⟨q, 11, none⟩ (.int .i64 sw)) q ⟨fx, fy, fx, fy, ⟨6, [v0, v1, v2, v3, v4, v5], sw⟩⟩) := hf
  clear hf
  have HG : Hid (Below q V2 ((((((((V2.setCell ⟨q, 4, none⟩ (.int .i64 6)).setCell ⟨q, 5, none⟩ (.int .i64 v0)).setCell ⟨q, 6, none⟩ (.int .i64 v1)).setCell ⟨q, 7, none⟩ (.int .i64 v2)).setCell ⟨q, 8, none⟩ (.int .i64 v3)).setCell ⟨q, 9, none⟩ (.int .i64 v4)).setCell ⟨q, 10, none⟩ (.int .i64 v5)).setCell ⟨q, 11, none⟩ (.int .i64 sw))) := (((((((((Below.refl q V2).setCell (p := ⟨q, 4, none⟩) (Nat.le_refl _) (.int .i64 6)).setCell (p := ⟨q, 5, none⟩) (Nat.le_refl _) (.int .i64 v0)).setCell (p := ⟨q, 6, none⟩) (Nat.le_refl _) (.int .i64 v1)).setCell (p := ⟨q, 7, none⟩) (Nat.le_refl _) (.int .i64 v2)).setCell (p := ⟨q, 8, none⟩) (Nat.le_refl _) (.int .i64 v3)).setCell (p := ⟨q, 9, none⟩) (Nat.le_refl _) (.int .i64 v4)).setCell (p := ⟨q, 10, none⟩) (Nat.le_refl _) (.int .i64 v5)).setCell (p := ⟨q, 11, none⟩) (Nat.le_refl _) (.int .i64 sw))
  have HH : Hid (∀ k, k ≠ q → ((((((((V2.setCell ⟨q, 4, none⟩ (.int .i64 6)).setCell ⟨q, 5, none⟩ (.int .i64 v0)).setCell ⟨q, 6, none⟩ (.int .i64 v1)).setCell ⟨q, 7, none⟩ (.int .i64 v2)).setCell ⟨q, 8, none⟩ (.int .i64 v3)).setCell ⟨q, 9, none⟩ (.int .i64 v4)).setCell ⟨q, 10, none⟩ (.int .i64 v5)).setCell ⟨q, 11, none⟩ (.int .i64 sw)).heap[k]? = V2.heap[k]?) := fun k hk => by
    refine (Below.heap_setCell _ ⟨q, 11, none⟩ _ _ hk).trans ?_
    refine (Below.heap_setCell _ ⟨q, 10, none⟩ _ _ hk).trans ?_
    refine (Below.heap_setCell _ ⟨q, 9, none⟩ _ _ hk).trans ?_
    refine (Below.heap_setCell _ ⟨q, 8, none⟩ _ _ hk).trans ?_
    refine (Below.heap_setCell _ ⟨q, 7, none⟩ _ _ hk).trans ?_
    refine (Below.heap_setCell _ ⟨q, 6, none⟩ _ _ hk).trans ?_
    refine (Below.heap_setCell _ ⟨q, 5, none⟩ _ _ hk).trans ?_
    refine (Below.heap_setCell _ ⟨q, 4, none⟩ _ _ hk).trans ?_
    rfl
  go_wp2
  exact bodyPost_end (v := .tuple #[]) (by simp [results, Tryd.results82, go_sem]) rfl ⟨rfl, (Below.mono HBL.out (Nat.le_of_lt hqw)).trans (HBWV2.out.trans HG.out), fun k hk1 hk => (HH.out k hk).trans ((HOV2.out k hk).trans (Below.block HBL.out k hk1)), HF.out⟩

end Go.Proofs.YtefajplbgmikdaaDoor

/-
  The walk of the pen's move.
-/
namespace Go.Proofs.YtefajplbgmikdaaDoor
open Go.RowKit

set_option maxHeartbeats 2000000 in
set_option maxRecDepth 100000 in
theorem move_move (p : Pen) (hp : PenOk p) (s : Sg) (hs : SgOk s) (hk : s.kind = 1) (q : Nat) (w : World) (h : Pn w q p) :
    Calls Tryd.prog 82 #[.pointer (some ⟨q, 0, none⟩), .agg (sgC s).toArray, .int .i64 2] w fun e w' => e = .returned (.tuple #[]) ∧ Below q w w' ∧ KeepBut q w w' ∧ Pn w' q (moveS p s (2 : Nat)) := by
  obtain ⟨x, y, fx, fy, ⟨lk, lv, lw⟩⟩ := p
  obtain ⟨sk, sv, sw⟩ := s
  obtain ⟨l0, l1, l2, l3, l4, l5, rfl⟩ := six hp.last.1
  obtain ⟨v0, v1, v2, v3, v4, v5, rfl⟩ := six hs.1
  dsimp only at hk
  subst hk
  simp only [sgC, List.map_cons, List.map_nil, List.cons_append, List.nil_append]
  have hP := heap_push_of h (.cells #[.int .i64 1, .int .i64 v0, .int .i64 v1, .int .i64 v2, .int .i64 v3, .int .i64 v4, .int .i64 v5, .int .i64 sw] 36)
  have hB := heap_alloc_new w (.cells #[.int .i64 1, .int .i64 v0, .int .i64 v1, .int .i64 v2, .int .i64 v3, .int .i64 v4, .int .i64 v5, .int .i64 sw] 36)
  have hbl : Bel w (w.alloc (.cells #[.int .i64 1, .int .i64 v0, .int .i64 v1, .int .i64 v2, .int .i64 v3, .int .i64 v4, .int .i64 v5, .int .i64 sw] 36)) := (Bel.refl w).alloc _
  have hqB : q < w.heap.size := heap_lt h
  have HBL := Lib.hid hbl
  have hqw : q < w.heap.size := heap_lt h
  have HP := Lib.hid hP
  have HB := Lib.hid hB
  have HM : Hid (moveS ⟨x, y, fx, fy, ⟨lk, [l0, l1, l2, l3, l4, l5], lw⟩⟩ ⟨1, [v0, v1, v2, v3, v4, v5], sw⟩ (2 : Nat) = ⟨v0, v1, v0, v1, ⟨1, [v0, v1, v2, v3, v4, v5], sw⟩⟩) := by
    unfold Hid moveS
    rfl
  rw [HM.out]
  clear hP hB hbl
  go_enter Tryd.func82, Tryd.ntmps82
  go_wp2_with fail
  generalize w.alloc (.cells #[.int .i64 1, .int .i64 v0, .int .i64 v1, .int .i64 v2, .int .i64 v3, .int .i64 v4, .int .i64 v5, .int .i64 sw] 36) = V at HB HP HBL ⊢
  obtain ⟨B, hBw⟩ : ∃ B, w.heap.size = B := ⟨_, rfl⟩
  rw [hBw] at HB hqB ⊢
  have HBw := Lib.hid hBw
  clear hBw
  have c0 : V.cell? ⟨q, 0, none⟩ = some (.int .i64 x) := by rw [heap_cell HP.out]; rfl
  have c1 : V.cell? ⟨q, 1, none⟩ = some (.int .i64 y) := by rw [heap_cell HP.out]; rfl
  have c2 : V.cell? ⟨q, 2, none⟩ = some (.int .i64 fx) := by rw [heap_cell HP.out]; rfl
  have c3 : V.cell? ⟨q, 3, none⟩ = some (.int .i64 fy) := by rw [heap_cell HP.out]; rfl
  have b0 : V.cell? ⟨B, 0, none⟩ = some (.int .i64 1) := by rw [heap_cell HB.out]; rfl
  have b1 : V.cell? ⟨B, 1, none⟩ = some (.int .i64 v0) := by rw [heap_cell HB.out]; rfl
  have b2 : V.cell? ⟨B, 2, none⟩ = some (.int .i64 v1) := by rw [heap_cell HB.out]; rfl
  have b3 : V.cell? ⟨B, 3, none⟩ = some (.int .i64 v2) := by rw [heap_cell HB.out]; rfl
  have b4 : V.cell? ⟨B, 4, none⟩ = some (.int .i64 v3) := by rw [heap_cell HB.out]; rfl
  have b5 : V.cell? ⟨B, 5, none⟩ = some (.int .i64 v4) := by rw [heap_cell HB.out]; rfl
  have b6 : V.cell? ⟨B, 6, none⟩ = some (.int .i64 v5) := by rw [heap_cell HB.out]; rfl
  have b7 : V.cell? ⟨B, 7, none⟩ = some (.int .i64 sw) := by rw [heap_cell HB.out]; rfl
  have f := fun j => heap_frozen HP.out j
  go_region
  have hP2 : ((V.setCell ⟨q, 0, none⟩ (.int .i64 v0)).setCell ⟨q, 1, none⟩ (.int .i64 v1)).drew.heap[q]? = _ := heap_set (heap_set HP.out 0 (.int .i64 v0)) 1 (.int .i64 v1)
  simp only [penC, sgC, List.map_cons, List.map_nil, List.cons_append, List.nil_append, List.setIfInBounds_toArray, List.set_cons_succ, List.set_cons_zero] at hP2
  have hoff2 : ∀ k, k ≠ q → ((V.setCell ⟨q, 0, none⟩ (.int .i64 v0)).setCell ⟨q, 1, none⟩ (.int .i64 v1)).drew.heap[k]? = V.heap[k]? := fun k hk => (Below.heap_setCell _ ⟨q, 1, none⟩ _ _ hk).trans (Below.heap_setCell _ ⟨q, 0, none⟩ _ _ hk)
  have hb2 : Below q V ((V.setCell ⟨q, 0, none⟩ (.int .i64 v0)).setCell ⟨q, 1, none⟩ (.int .i64 v1)).drew := (((Below.refl q V).setCell (p := ⟨q, 0, none⟩) (Nat.le_refl _) _).setCell (p := ⟨q, 1, none⟩) (Nat.le_refl _) _).drew
  have hB2 := (hoff2 B (by omega)).trans HB.out
  have HP2 := Lib.hid hP2
  have HB2 := Lib.hid hB2
  have HOV2 := Lib.hid hoff2
  have HBWV2 := Lib.hid hb2
  clear hP2 hoff2 hb2 hB2 HP HB c0 c1 c2 c3 f b0 b1 b2 b3 b4 b5 b6 b7
  have HP := HP2
  have HB := HB2
  clear HP2 HB2
  generalize ((V.setCell ⟨q, 0, none⟩ (.int .i64 v0)).setCell ⟨q, 1, none⟩ (.int .i64 v1)).drew = V2 at HP HB HOV2 HBWV2 ⊢
  have c0 : V2.cell? ⟨q, 0, none⟩ = some (.int .i64 v0) := by rw [heap_cell HP.out]; rfl
  have c1 : V2.cell? ⟨q, 1, none⟩ = some (.int .i64 v1) := by rw [heap_cell HP.out]; rfl
  have c2 : V2.cell? ⟨q, 2, none⟩ = some (.int .i64 fx) := by rw [heap_cell HP.out]; rfl
  have c3 : V2.cell? ⟨q, 3, none⟩ = some (.int .i64 fy) := by rw [heap_cell HP.out]; rfl
  have b0 : V2.cell? ⟨B, 0, none⟩ = some (.int .i64 1) := by rw [heap_cell HB.out]; rfl
  have b1 : V2.cell? ⟨B, 1, none⟩ = some (.int .i64 v0) := by rw [heap_cell HB.out]; rfl
  have b2 : V2.cell? ⟨B, 2, none⟩ = some (.int .i64 v1) := by rw [heap_cell HB.out]; rfl
  have b3 : V2.cell? ⟨B, 3, none⟩ = some (.int .i64 v2) := by rw [heap_cell HB.out]; rfl
  have b4 : V2.cell? ⟨B, 4, none⟩ = some (.int .i64 v3) := by rw [heap_cell HB.out]; rfl
  have b5 : V2.cell? ⟨B, 5, none⟩ = some (.int .i64 v4) := by rw [heap_cell HB.out]; rfl
  have b6 : V2.cell? ⟨B, 6, none⟩ = some (.int .i64 v5) := by rw [heap_cell HB.out]; rfl
  have b7 : V2.cell? ⟨B, 7, none⟩ = some (.int .i64 sw) := by rw [heap_cell HB.out]; rfl
  have f := fun j => heap_frozen HP.out j
  go_wp2_with fail
  go_region
  have hP2 : ((V2.setCell ⟨q, 2, none⟩ (.int .i64 v0)).setCell ⟨q, 3, none⟩ (.int .i64 v1)).drew.heap[q]? = _ := heap_set (heap_set HP.out 2 (.int .i64 v0)) 3 (.int .i64 v1)
  simp only [List.setIfInBounds_toArray, List.set_cons_succ, List.set_cons_zero] at hP2
  have hoff2 : ∀ k, k ≠ q → ((V2.setCell ⟨q, 2, none⟩ (.int .i64 v0)).setCell ⟨q, 3, none⟩ (.int .i64 v1)).drew.heap[k]? = V2.heap[k]? := fun k hk => (Below.heap_setCell _ ⟨q, 3, none⟩ _ _ hk).trans (Below.heap_setCell _ ⟨q, 2, none⟩ _ _ hk)
  have hb2 : Below q V2 ((V2.setCell ⟨q, 2, none⟩ (.int .i64 v0)).setCell ⟨q, 3, none⟩ (.int .i64 v1)).drew := (((Below.refl q V2).setCell (p := ⟨q, 2, none⟩) (Nat.le_refl _) _).setCell (p := ⟨q, 3, none⟩) (Nat.le_refl _) _).drew
  have hB2 := (hoff2 B (by omega)).trans HB.out
  have HP2 := Lib.hid hP2
  have HB2 := Lib.hid hB2
  have HOV3 := Lib.hid hoff2
  have HBWV3 := Lib.hid hb2
  clear hP2 hoff2 hb2 hB2 HP HB c0 c1 c2 c3 f b0 b1 b2 b3 b4 b5 b6 b7
  have HP := HP2
  have HB := HB2
  clear HP2 HB2
  generalize ((V2.setCell ⟨q, 2, none⟩ (.int .i64 v0)).setCell ⟨q, 3, none⟩ (.int .i64 v1)).drew = V3 at HP HB HOV3 HBWV3 ⊢
  have b0 : V3.cell? ⟨B, 0, none⟩ = some (.int .i64 1) := by rw [heap_cell HB.out]; rfl
  have b1 : V3.cell? ⟨B, 1, none⟩ = some (.int .i64 v0) := by rw [heap_cell HB.out]; rfl
  have b2 : V3.cell? ⟨B, 2, none⟩ = some (.int .i64 v1) := by rw [heap_cell HB.out]; rfl
  have b3 : V3.cell? ⟨B, 3, none⟩ = some (.int .i64 v2) := by rw [heap_cell HB.out]; rfl
  have b4 : V3.cell? ⟨B, 4, none⟩ = some (.int .i64 v3) := by rw [heap_cell HB.out]; rfl
  have b5 : V3.cell? ⟨B, 5, none⟩ = some (.int .i64 v4) := by rw [heap_cell HB.out]; rfl
  have b6 : V3.cell? ⟨B, 6, none⟩ = some (.int .i64 v5) := by rw [heap_cell HB.out]; rfl
  have b7 : V3.cell? ⟨B, 7, none⟩ = some (.int .i64 sw) := by rw [heap_cell HB.out]; rfl
  have p4 : V3.cell? ⟨q, 4, none⟩ = some (.int .i64 lk) := by rw [heap_cell HP.out]; rfl
  have p5 : V3.cell? ⟨q, 5, none⟩ = some (.int .i64 l0) := by rw [heap_cell HP.out]; rfl
  have p6 : V3.cell? ⟨q, 6, none⟩ = some (.int .i64 l1) := by rw [heap_cell HP.out]; rfl
  have p7 : V3.cell? ⟨q, 7, none⟩ = some (.int .i64 l2) := by rw [heap_cell HP.out]; rfl
  have p8 : V3.cell? ⟨q, 8, none⟩ = some (.int .i64 l3) := by rw [heap_cell HP.out]; rfl
  have p9 : V3.cell? ⟨q, 9, none⟩ = some (.int .i64 l4) := by rw [heap_cell HP.out]; rfl
  have p10 : V3.cell? ⟨q, 10, none⟩ = some (.int .i64 l5) := by rw [heap_cell HP.out]; rfl
  have p11 : V3.cell? ⟨q, 11, none⟩ = some (.int .i64 lw) := by rw [heap_cell HP.out]; rfl
  have f := fun j => heap_frozen HP.out j
  have hf := (heap_set (heap_set (heap_set (heap_set (heap_set (heap_set (heap_set (heap_set HP.out 4 (.int .i64 1)) 5 (.int .i64 v0)) 6 (.int .i64 v1)) 7 (.int .i64 v2)) 8 (.int .i64 v3)) 9 (.int .i64 v4)) 10 (.int .i64 v5)) 11 (.int .i64 sw))
  simp only [List.setIfInBounds_toArray, List.set_cons_succ, List.set_cons_zero] at hf
  have HF : Hid (Pn ((((((((V3.setCell ⟨q, 4, none⟩ (.int .i64 1)).setCell ⟨q, 5, none⟩ (.int .i64 v0)).setCell ⟨q, 6, none⟩ (.int .i64 v1)).setCell ⟨q, 7, none⟩ (.int .i64 v2)).setCell ⟨q, 8, none⟩ (.int .i64 v3)).setCell ⟨q, 9, none⟩ (.int .i64 v4)).setCell ⟨q, 10, none⟩ (.int .i64 v5)).setCell ⟨q, 11, none⟩ (.int .i64 sw)) q ⟨v0, v1, v0, v1, ⟨1, [v0, v1, v2, v3, v4, v5], sw⟩⟩) := hf
  clear hf
  have HG : Hid (Below q V3 ((((((((V3.setCell ⟨q, 4, none⟩ (.int .i64 1)).setCell ⟨q, 5, none⟩ (.int .i64 v0)).setCell ⟨q, 6, none⟩ (.int .i64 v1)).setCell ⟨q, 7, none⟩ (.int .i64 v2)).setCell ⟨q, 8, none⟩ (.int .i64 v3)).setCell ⟨q, 9, none⟩ (.int .i64 v4)).setCell ⟨q, 10, none⟩ (.int .i64 v5)).setCell ⟨q, 11, none⟩ (.int .i64 sw))) := (((((((((Below.refl q V3).setCell (p := ⟨q, 4, none⟩) (Nat.le_refl _) (.int .i64 1)).setCell (p := ⟨q, 5, none⟩) (Nat.le_refl _) (.int .i64 v0)).setCell (p := ⟨q, 6, none⟩) (Nat.le_refl _) (.int .i64 v1)).setCell (p := ⟨q, 7, none⟩) (Nat.le_refl _) (.int .i64 v2)).setCell (p := ⟨q, 8, none⟩) (Nat.le_refl _) (.int .i64 v3)).setCell (p := ⟨q, 9, none⟩) (Nat.le_refl _) (.int .i64 v4)).setCell (p := ⟨q, 10, none⟩) (Nat.le_refl _) (.int .i64 v5)).setCell (p := ⟨q, 11, none⟩) (Nat.le_refl _) (.int .i64 sw))
  have HH : Hid (∀ k, k ≠ q → ((((((((V3.setCell ⟨q, 4, none⟩ (.int .i64 1)).setCell ⟨q, 5, none⟩ (.int .i64 v0)).setCell ⟨q, 6, none⟩ (.int .i64 v1)).setCell ⟨q, 7, none⟩ (.int .i64 v2)).setCell ⟨q, 8, none⟩ (.int .i64 v3)).setCell ⟨q, 9, none⟩ (.int .i64 v4)).setCell ⟨q, 10, none⟩ (.int .i64 v5)).setCell ⟨q, 11, none⟩ (.int .i64 sw)).heap[k]? = V3.heap[k]?) := fun k hk => by
    refine (Below.heap_setCell _ ⟨q, 11, none⟩ _ _ hk).trans ?_
    refine (Below.heap_setCell _ ⟨q, 10, none⟩ _ _ hk).trans ?_
    refine (Below.heap_setCell _ ⟨q, 9, none⟩ _ _ hk).trans ?_
    refine (Below.heap_setCell _ ⟨q, 8, none⟩ _ _ hk).trans ?_
    refine (Below.heap_setCell _ ⟨q, 7, none⟩ _ _ hk).trans ?_
    refine (Below.heap_setCell _ ⟨q, 6, none⟩ _ _ hk).trans ?_
    refine (Below.heap_setCell _ ⟨q, 5, none⟩ _ _ hk).trans ?_
    refine (Below.heap_setCell _ ⟨q, 4, none⟩ _ _ hk).trans ?_
    rfl
  go_wp2
  exact bodyPost_end (v := .tuple #[]) (by simp [results, Tryd.results82, go_sem]) rfl ⟨rfl, (Below.mono HBL.out (Nat.le_of_lt hqw)).trans ((HBWV2.out.trans HBWV3.out).trans HG.out), fun k hk1 hk => (HH.out k hk).trans (((HOV3.out k hk).trans (HOV2.out k hk)).trans (Below.block HBL.out k hk1)), HF.out⟩

end Go.Proofs.YtefajplbgmikdaaDoor

/-
  The walk of the pen's move.
-/
namespace Go.Proofs.YtefajplbgmikdaaDoor
open Go.RowKit

set_option maxHeartbeats 2000000 in
set_option maxRecDepth 100000 in
theorem move_o2 (p : Pen) (hp : PenOk p) (s : Sg) (hs : SgOk s) (hk1 : s.kind ≠ 1) (hk6 : s.kind ≠ 6) (q : Nat) (w : World) (h : Pn w q p) :
    Calls Tryd.prog 82 #[.pointer (some ⟨q, 0, none⟩), .agg (sgC s).toArray, .int .i64 2] w fun e w' => e = .returned (.tuple #[]) ∧ Below q w w' ∧ KeepBut q w w' ∧ Pn w' q (moveS p s (2 : Nat)) := by
  obtain ⟨x, y, fx, fy, ⟨lk, lv, lw⟩⟩ := p
  obtain ⟨sk, sv, sw⟩ := s
  obtain ⟨l0, l1, l2, l3, l4, l5, rfl⟩ := six hp.last.1
  obtain ⟨v0, v1, v2, v3, v4, v5, rfl⟩ := six hs.1
  dsimp only at hk1 hk6
  have hk1' : (sk == 1) = false := by simpa using hk1
  have hk6' : (sk == 6) = false := by simpa using hk6
  simp only [sgC, List.map_cons, List.map_nil, List.cons_append, List.nil_append]
  have hP := heap_push_of h (.cells #[.int .i64 sk, .int .i64 v0, .int .i64 v1, .int .i64 v2, .int .i64 v3, .int .i64 v4, .int .i64 v5, .int .i64 sw] 36)
  have hB := heap_alloc_new w (.cells #[.int .i64 sk, .int .i64 v0, .int .i64 v1, .int .i64 v2, .int .i64 v3, .int .i64 v4, .int .i64 v5, .int .i64 sw] 36)
  have hbl : Bel w (w.alloc (.cells #[.int .i64 sk, .int .i64 v0, .int .i64 v1, .int .i64 v2, .int .i64 v3, .int .i64 v4, .int .i64 v5, .int .i64 sw] 36)) := (Bel.refl w).alloc _
  have hqB : q < w.heap.size := heap_lt h
  have HBL := Lib.hid hbl
  have hqw : q < w.heap.size := heap_lt h
  have HP := Lib.hid hP
  have HB := Lib.hid hB
  have HM : Hid (moveS ⟨x, y, fx, fy, ⟨lk, [l0, l1, l2, l3, l4, l5], lw⟩⟩ ⟨sk, [v0, v1, v2, v3, v4, v5], sw⟩ (2 : Nat) = ⟨v0, v1, fx, fy, ⟨sk, [v0, v1, v2, v3, v4, v5], sw⟩⟩) := by
    unfold Hid moveS
    simp [hk1, hk6]
  rw [HM.out]
  clear hP hB hbl hk1 hk6
  go_enter Tryd.func82, Tryd.ntmps82
  go_wp2_with fail
  generalize w.alloc (.cells #[.int .i64 sk, .int .i64 v0, .int .i64 v1, .int .i64 v2, .int .i64 v3, .int .i64 v4, .int .i64 v5, .int .i64 sw] 36) = V at HB HP HBL ⊢
  obtain ⟨B, hBw⟩ : ∃ B, w.heap.size = B := ⟨_, rfl⟩
  rw [hBw] at HB hqB ⊢
  have HBw := Lib.hid hBw
  clear hBw
  have c0 : V.cell? ⟨q, 0, none⟩ = some (.int .i64 x) := by rw [heap_cell HP.out]; rfl
  have c1 : V.cell? ⟨q, 1, none⟩ = some (.int .i64 y) := by rw [heap_cell HP.out]; rfl
  have c2 : V.cell? ⟨q, 2, none⟩ = some (.int .i64 fx) := by rw [heap_cell HP.out]; rfl
  have c3 : V.cell? ⟨q, 3, none⟩ = some (.int .i64 fy) := by rw [heap_cell HP.out]; rfl
  have b0 : V.cell? ⟨B, 0, none⟩ = some (.int .i64 sk) := by rw [heap_cell HB.out]; rfl
  have b1 : V.cell? ⟨B, 1, none⟩ = some (.int .i64 v0) := by rw [heap_cell HB.out]; rfl
  have b2 : V.cell? ⟨B, 2, none⟩ = some (.int .i64 v1) := by rw [heap_cell HB.out]; rfl
  have b3 : V.cell? ⟨B, 3, none⟩ = some (.int .i64 v2) := by rw [heap_cell HB.out]; rfl
  have b4 : V.cell? ⟨B, 4, none⟩ = some (.int .i64 v3) := by rw [heap_cell HB.out]; rfl
  have b5 : V.cell? ⟨B, 5, none⟩ = some (.int .i64 v4) := by rw [heap_cell HB.out]; rfl
  have b6 : V.cell? ⟨B, 6, none⟩ = some (.int .i64 v5) := by rw [heap_cell HB.out]; rfl
  have b7 : V.cell? ⟨B, 7, none⟩ = some (.int .i64 sw) := by rw [heap_cell HB.out]; rfl
  have f := fun j => heap_frozen HP.out j
  go_region
  have hP2 : ((V.setCell ⟨q, 0, none⟩ (.int .i64 v0)).setCell ⟨q, 1, none⟩ (.int .i64 v1)).drew.heap[q]? = _ := heap_set (heap_set HP.out 0 (.int .i64 v0)) 1 (.int .i64 v1)
  simp only [penC, sgC, List.map_cons, List.map_nil, List.cons_append, List.nil_append, List.setIfInBounds_toArray, List.set_cons_succ, List.set_cons_zero] at hP2
  have hoff2 : ∀ k, k ≠ q → ((V.setCell ⟨q, 0, none⟩ (.int .i64 v0)).setCell ⟨q, 1, none⟩ (.int .i64 v1)).drew.heap[k]? = V.heap[k]? := fun k hk => (Below.heap_setCell _ ⟨q, 1, none⟩ _ _ hk).trans (Below.heap_setCell _ ⟨q, 0, none⟩ _ _ hk)
  have hb2 : Below q V ((V.setCell ⟨q, 0, none⟩ (.int .i64 v0)).setCell ⟨q, 1, none⟩ (.int .i64 v1)).drew := (((Below.refl q V).setCell (p := ⟨q, 0, none⟩) (Nat.le_refl _) _).setCell (p := ⟨q, 1, none⟩) (Nat.le_refl _) _).drew
  have hB2 := (hoff2 B (by omega)).trans HB.out
  have HP2 := Lib.hid hP2
  have HB2 := Lib.hid hB2
  have HOV2 := Lib.hid hoff2
  have HBWV2 := Lib.hid hb2
  clear hP2 hoff2 hb2 hB2 HP HB c0 c1 c2 c3 f b0 b1 b2 b3 b4 b5 b6 b7
  have HP := HP2
  have HB := HB2
  clear HP2 HB2
  generalize ((V.setCell ⟨q, 0, none⟩ (.int .i64 v0)).setCell ⟨q, 1, none⟩ (.int .i64 v1)).drew = V2 at HP HB HOV2 HBWV2 ⊢
  have b0 : V2.cell? ⟨B, 0, none⟩ = some (.int .i64 sk) := by rw [heap_cell HB.out]; rfl
  have b1 : V2.cell? ⟨B, 1, none⟩ = some (.int .i64 v0) := by rw [heap_cell HB.out]; rfl
  have b2 : V2.cell? ⟨B, 2, none⟩ = some (.int .i64 v1) := by rw [heap_cell HB.out]; rfl
  have b3 : V2.cell? ⟨B, 3, none⟩ = some (.int .i64 v2) := by rw [heap_cell HB.out]; rfl
  have b4 : V2.cell? ⟨B, 4, none⟩ = some (.int .i64 v3) := by rw [heap_cell HB.out]; rfl
  have b5 : V2.cell? ⟨B, 5, none⟩ = some (.int .i64 v4) := by rw [heap_cell HB.out]; rfl
  have b6 : V2.cell? ⟨B, 6, none⟩ = some (.int .i64 v5) := by rw [heap_cell HB.out]; rfl
  have b7 : V2.cell? ⟨B, 7, none⟩ = some (.int .i64 sw) := by rw [heap_cell HB.out]; rfl
  have p4 : V2.cell? ⟨q, 4, none⟩ = some (.int .i64 lk) := by rw [heap_cell HP.out]; rfl
  have p5 : V2.cell? ⟨q, 5, none⟩ = some (.int .i64 l0) := by rw [heap_cell HP.out]; rfl
  have p6 : V2.cell? ⟨q, 6, none⟩ = some (.int .i64 l1) := by rw [heap_cell HP.out]; rfl
  have p7 : V2.cell? ⟨q, 7, none⟩ = some (.int .i64 l2) := by rw [heap_cell HP.out]; rfl
  have p8 : V2.cell? ⟨q, 8, none⟩ = some (.int .i64 l3) := by rw [heap_cell HP.out]; rfl
  have p9 : V2.cell? ⟨q, 9, none⟩ = some (.int .i64 l4) := by rw [heap_cell HP.out]; rfl
  have p10 : V2.cell? ⟨q, 10, none⟩ = some (.int .i64 l5) := by rw [heap_cell HP.out]; rfl
  have p11 : V2.cell? ⟨q, 11, none⟩ = some (.int .i64 lw) := by rw [heap_cell HP.out]; rfl
  have f := fun j => heap_frozen HP.out j
  have hf := (heap_set (heap_set (heap_set (heap_set (heap_set (heap_set (heap_set (heap_set HP.out 4 (.int .i64 sk)) 5 (.int .i64 v0)) 6 (.int .i64 v1)) 7 (.int .i64 v2)) 8 (.int .i64 v3)) 9 (.int .i64 v4)) 10 (.int .i64 v5)) 11 (.int .i64 sw))
  simp only [List.setIfInBounds_toArray, List.set_cons_succ, List.set_cons_zero] at hf
  have HF : Hid (Pn ((((((((V2.setCell ⟨q, 4, none⟩ (.int .i64 sk)).setCell ⟨q, 5, none⟩ (.int .i64 v0)).setCell ⟨q, 6, none⟩ (.int .i64 v1)).setCell ⟨q, 7, none⟩ (.int .i64 v2)).setCell ⟨q, 8, none⟩ (.int .i64 v3)).setCell ⟨q, 9, none⟩ (.int .i64 v4)).setCell ⟨q, 10, none⟩ (.int .i64 v5)).setCell ⟨q, 11, none⟩ (.int .i64 sw)) q ⟨v0, v1, fx, fy, ⟨sk, [v0, v1, v2, v3, v4, v5], sw⟩⟩) := hf
  clear hf
  have HG : Hid (Below q V2 ((((((((V2.setCell ⟨q, 4, none⟩ (.int .i64 sk)).setCell ⟨q, 5, none⟩ (.int .i64 v0)).setCell ⟨q, 6, none⟩ (.int .i64 v1)).setCell ⟨q, 7, none⟩ (.int .i64 v2)).setCell ⟨q, 8, none⟩ (.int .i64 v3)).setCell ⟨q, 9, none⟩ (.int .i64 v4)).setCell ⟨q, 10, none⟩ (.int .i64 v5)).setCell ⟨q, 11, none⟩ (.int .i64 sw))) := (((((((((Below.refl q V2).setCell (p := ⟨q, 4, none⟩) (Nat.le_refl _) (.int .i64 sk)).setCell (p := ⟨q, 5, none⟩) (Nat.le_refl _) (.int .i64 v0)).setCell (p := ⟨q, 6, none⟩) (Nat.le_refl _) (.int .i64 v1)).setCell (p := ⟨q, 7, none⟩) (Nat.le_refl _) (.int .i64 v2)).setCell (p := ⟨q, 8, none⟩) (Nat.le_refl _) (.int .i64 v3)).setCell (p := ⟨q, 9, none⟩) (Nat.le_refl _) (.int .i64 v4)).setCell (p := ⟨q, 10, none⟩) (Nat.le_refl _) (.int .i64 v5)).setCell (p := ⟨q, 11, none⟩) (Nat.le_refl _) (.int .i64 sw))
  have HH : Hid (∀ k, k ≠ q → ((((((((V2.setCell ⟨q, 4, none⟩ (.int .i64 sk)).setCell ⟨q, 5, none⟩ (.int .i64 v0)).setCell ⟨q, 6, none⟩ (.int .i64 v1)).setCell ⟨q, 7, none⟩ (.int .i64 v2)).setCell ⟨q, 8, none⟩ (.int .i64 v3)).setCell ⟨q, 9, none⟩ (.int .i64 v4)).setCell ⟨q, 10, none⟩ (.int .i64 v5)).setCell ⟨q, 11, none⟩ (.int .i64 sw)).heap[k]? = V2.heap[k]?) := fun k hk => by
    refine (Below.heap_setCell _ ⟨q, 11, none⟩ _ _ hk).trans ?_
    refine (Below.heap_setCell _ ⟨q, 10, none⟩ _ _ hk).trans ?_
    refine (Below.heap_setCell _ ⟨q, 9, none⟩ _ _ hk).trans ?_
    refine (Below.heap_setCell _ ⟨q, 8, none⟩ _ _ hk).trans ?_
    refine (Below.heap_setCell _ ⟨q, 7, none⟩ _ _ hk).trans ?_
    refine (Below.heap_setCell _ ⟨q, 6, none⟩ _ _ hk).trans ?_
    refine (Below.heap_setCell _ ⟨q, 5, none⟩ _ _ hk).trans ?_
    refine (Below.heap_setCell _ ⟨q, 4, none⟩ _ _ hk).trans ?_
    rfl
  go_wp2
  exact bodyPost_end (v := .tuple #[]) (by simp [results, Tryd.results82, go_sem]) rfl ⟨rfl, (Below.mono HBL.out (Nat.le_of_lt hqw)).trans (HBWV2.out.trans HG.out), fun k hk1 hk => (HH.out k hk).trans ((HOV2.out k hk).trans (Below.block HBL.out k hk1)), HF.out⟩

end Go.Proofs.YtefajplbgmikdaaDoor

/-
  The walk of the pen's move.
-/
namespace Go.Proofs.YtefajplbgmikdaaDoor
open Go.RowKit

set_option maxHeartbeats 2000000 in
set_option maxRecDepth 100000 in
theorem move_o4 (p : Pen) (hp : PenOk p) (s : Sg) (hs : SgOk s) (hk1 : s.kind ≠ 1) (hk6 : s.kind ≠ 6) (q : Nat) (w : World) (h : Pn w q p) :
    Calls Tryd.prog 82 #[.pointer (some ⟨q, 0, none⟩), .agg (sgC s).toArray, .int .i64 4] w fun e w' => e = .returned (.tuple #[]) ∧ Below q w w' ∧ KeepBut q w w' ∧ Pn w' q (moveS p s (4 : Nat)) := by
  obtain ⟨x, y, fx, fy, ⟨lk, lv, lw⟩⟩ := p
  obtain ⟨sk, sv, sw⟩ := s
  obtain ⟨l0, l1, l2, l3, l4, l5, rfl⟩ := six hp.last.1
  obtain ⟨v0, v1, v2, v3, v4, v5, rfl⟩ := six hs.1
  dsimp only at hk1 hk6
  have hk1' : (sk == 1) = false := by simpa using hk1
  have hk6' : (sk == 6) = false := by simpa using hk6
  simp only [sgC, List.map_cons, List.map_nil, List.cons_append, List.nil_append]
  have hP := heap_push_of h (.cells #[.int .i64 sk, .int .i64 v0, .int .i64 v1, .int .i64 v2, .int .i64 v3, .int .i64 v4, .int .i64 v5, .int .i64 sw] 36)
  have hB := heap_alloc_new w (.cells #[.int .i64 sk, .int .i64 v0, .int .i64 v1, .int .i64 v2, .int .i64 v3, .int .i64 v4, .int .i64 v5, .int .i64 sw] 36)
  have hbl : Bel w (w.alloc (.cells #[.int .i64 sk, .int .i64 v0, .int .i64 v1, .int .i64 v2, .int .i64 v3, .int .i64 v4, .int .i64 v5, .int .i64 sw] 36)) := (Bel.refl w).alloc _
  have hqB : q < w.heap.size := heap_lt h
  have HBL := Lib.hid hbl
  have hqw : q < w.heap.size := heap_lt h
  have HP := Lib.hid hP
  have HB := Lib.hid hB
  have HM : Hid (moveS ⟨x, y, fx, fy, ⟨lk, [l0, l1, l2, l3, l4, l5], lw⟩⟩ ⟨sk, [v0, v1, v2, v3, v4, v5], sw⟩ (4 : Nat) = ⟨v2, v3, fx, fy, ⟨sk, [v0, v1, v2, v3, v4, v5], sw⟩⟩) := by
    unfold Hid moveS
    simp [hk1, hk6]
  rw [HM.out]
  clear hP hB hbl hk1 hk6
  go_enter Tryd.func82, Tryd.ntmps82
  go_wp2_with fail
  generalize w.alloc (.cells #[.int .i64 sk, .int .i64 v0, .int .i64 v1, .int .i64 v2, .int .i64 v3, .int .i64 v4, .int .i64 v5, .int .i64 sw] 36) = V at HB HP HBL ⊢
  obtain ⟨B, hBw⟩ : ∃ B, w.heap.size = B := ⟨_, rfl⟩
  rw [hBw] at HB hqB ⊢
  have HBw := Lib.hid hBw
  clear hBw
  have c0 : V.cell? ⟨q, 0, none⟩ = some (.int .i64 x) := by rw [heap_cell HP.out]; rfl
  have c1 : V.cell? ⟨q, 1, none⟩ = some (.int .i64 y) := by rw [heap_cell HP.out]; rfl
  have c2 : V.cell? ⟨q, 2, none⟩ = some (.int .i64 fx) := by rw [heap_cell HP.out]; rfl
  have c3 : V.cell? ⟨q, 3, none⟩ = some (.int .i64 fy) := by rw [heap_cell HP.out]; rfl
  have b0 : V.cell? ⟨B, 0, none⟩ = some (.int .i64 sk) := by rw [heap_cell HB.out]; rfl
  have b1 : V.cell? ⟨B, 1, none⟩ = some (.int .i64 v0) := by rw [heap_cell HB.out]; rfl
  have b2 : V.cell? ⟨B, 2, none⟩ = some (.int .i64 v1) := by rw [heap_cell HB.out]; rfl
  have b3 : V.cell? ⟨B, 3, none⟩ = some (.int .i64 v2) := by rw [heap_cell HB.out]; rfl
  have b4 : V.cell? ⟨B, 4, none⟩ = some (.int .i64 v3) := by rw [heap_cell HB.out]; rfl
  have b5 : V.cell? ⟨B, 5, none⟩ = some (.int .i64 v4) := by rw [heap_cell HB.out]; rfl
  have b6 : V.cell? ⟨B, 6, none⟩ = some (.int .i64 v5) := by rw [heap_cell HB.out]; rfl
  have b7 : V.cell? ⟨B, 7, none⟩ = some (.int .i64 sw) := by rw [heap_cell HB.out]; rfl
  have f := fun j => heap_frozen HP.out j
  go_region
  have hP2 : ((V.setCell ⟨q, 0, none⟩ (.int .i64 v2)).setCell ⟨q, 1, none⟩ (.int .i64 v3)).drew.heap[q]? = _ := heap_set (heap_set HP.out 0 (.int .i64 v2)) 1 (.int .i64 v3)
  simp only [penC, sgC, List.map_cons, List.map_nil, List.cons_append, List.nil_append, List.setIfInBounds_toArray, List.set_cons_succ, List.set_cons_zero] at hP2
  have hoff2 : ∀ k, k ≠ q → ((V.setCell ⟨q, 0, none⟩ (.int .i64 v2)).setCell ⟨q, 1, none⟩ (.int .i64 v3)).drew.heap[k]? = V.heap[k]? := fun k hk => (Below.heap_setCell _ ⟨q, 1, none⟩ _ _ hk).trans (Below.heap_setCell _ ⟨q, 0, none⟩ _ _ hk)
  have hb2 : Below q V ((V.setCell ⟨q, 0, none⟩ (.int .i64 v2)).setCell ⟨q, 1, none⟩ (.int .i64 v3)).drew := (((Below.refl q V).setCell (p := ⟨q, 0, none⟩) (Nat.le_refl _) _).setCell (p := ⟨q, 1, none⟩) (Nat.le_refl _) _).drew
  have hB2 := (hoff2 B (by omega)).trans HB.out
  have HP2 := Lib.hid hP2
  have HB2 := Lib.hid hB2
  have HOV2 := Lib.hid hoff2
  have HBWV2 := Lib.hid hb2
  clear hP2 hoff2 hb2 hB2 HP HB c0 c1 c2 c3 f b0 b1 b2 b3 b4 b5 b6 b7
  have HP := HP2
  have HB := HB2
  clear HP2 HB2
  generalize ((V.setCell ⟨q, 0, none⟩ (.int .i64 v2)).setCell ⟨q, 1, none⟩ (.int .i64 v3)).drew = V2 at HP HB HOV2 HBWV2 ⊢
  have b0 : V2.cell? ⟨B, 0, none⟩ = some (.int .i64 sk) := by rw [heap_cell HB.out]; rfl
  have b1 : V2.cell? ⟨B, 1, none⟩ = some (.int .i64 v0) := by rw [heap_cell HB.out]; rfl
  have b2 : V2.cell? ⟨B, 2, none⟩ = some (.int .i64 v1) := by rw [heap_cell HB.out]; rfl
  have b3 : V2.cell? ⟨B, 3, none⟩ = some (.int .i64 v2) := by rw [heap_cell HB.out]; rfl
  have b4 : V2.cell? ⟨B, 4, none⟩ = some (.int .i64 v3) := by rw [heap_cell HB.out]; rfl
  have b5 : V2.cell? ⟨B, 5, none⟩ = some (.int .i64 v4) := by rw [heap_cell HB.out]; rfl
  have b6 : V2.cell? ⟨B, 6, none⟩ = some (.int .i64 v5) := by rw [heap_cell HB.out]; rfl
  have b7 : V2.cell? ⟨B, 7, none⟩ = some (.int .i64 sw) := by rw [heap_cell HB.out]; rfl
  have p4 : V2.cell? ⟨q, 4, none⟩ = some (.int .i64 lk) := by rw [heap_cell HP.out]; rfl
  have p5 : V2.cell? ⟨q, 5, none⟩ = some (.int .i64 l0) := by rw [heap_cell HP.out]; rfl
  have p6 : V2.cell? ⟨q, 6, none⟩ = some (.int .i64 l1) := by rw [heap_cell HP.out]; rfl
  have p7 : V2.cell? ⟨q, 7, none⟩ = some (.int .i64 l2) := by rw [heap_cell HP.out]; rfl
  have p8 : V2.cell? ⟨q, 8, none⟩ = some (.int .i64 l3) := by rw [heap_cell HP.out]; rfl
  have p9 : V2.cell? ⟨q, 9, none⟩ = some (.int .i64 l4) := by rw [heap_cell HP.out]; rfl
  have p10 : V2.cell? ⟨q, 10, none⟩ = some (.int .i64 l5) := by rw [heap_cell HP.out]; rfl
  have p11 : V2.cell? ⟨q, 11, none⟩ = some (.int .i64 lw) := by rw [heap_cell HP.out]; rfl
  have f := fun j => heap_frozen HP.out j
  have hf := (heap_set (heap_set (heap_set (heap_set (heap_set (heap_set (heap_set (heap_set HP.out 4 (.int .i64 sk)) 5 (.int .i64 v0)) 6 (.int .i64 v1)) 7 (.int .i64 v2)) 8 (.int .i64 v3)) 9 (.int .i64 v4)) 10 (.int .i64 v5)) 11 (.int .i64 sw))
  simp only [List.setIfInBounds_toArray, List.set_cons_succ, List.set_cons_zero] at hf
  have HF : Hid (Pn ((((((((V2.setCell ⟨q, 4, none⟩ (.int .i64 sk)).setCell ⟨q, 5, none⟩ (.int .i64 v0)).setCell ⟨q, 6, none⟩ (.int .i64 v1)).setCell ⟨q, 7, none⟩ (.int .i64 v2)).setCell ⟨q, 8, none⟩ (.int .i64 v3)).setCell ⟨q, 9, none⟩ (.int .i64 v4)).setCell ⟨q, 10, none⟩ (.int .i64 v5)).setCell ⟨q, 11, none⟩ (.int .i64 sw)) q ⟨v2, v3, fx, fy, ⟨sk, [v0, v1, v2, v3, v4, v5], sw⟩⟩) := hf
  clear hf
  have HG : Hid (Below q V2 ((((((((V2.setCell ⟨q, 4, none⟩ (.int .i64 sk)).setCell ⟨q, 5, none⟩ (.int .i64 v0)).setCell ⟨q, 6, none⟩ (.int .i64 v1)).setCell ⟨q, 7, none⟩ (.int .i64 v2)).setCell ⟨q, 8, none⟩ (.int .i64 v3)).setCell ⟨q, 9, none⟩ (.int .i64 v4)).setCell ⟨q, 10, none⟩ (.int .i64 v5)).setCell ⟨q, 11, none⟩ (.int .i64 sw))) := (((((((((Below.refl q V2).setCell (p := ⟨q, 4, none⟩) (Nat.le_refl _) (.int .i64 sk)).setCell (p := ⟨q, 5, none⟩) (Nat.le_refl _) (.int .i64 v0)).setCell (p := ⟨q, 6, none⟩) (Nat.le_refl _) (.int .i64 v1)).setCell (p := ⟨q, 7, none⟩) (Nat.le_refl _) (.int .i64 v2)).setCell (p := ⟨q, 8, none⟩) (Nat.le_refl _) (.int .i64 v3)).setCell (p := ⟨q, 9, none⟩) (Nat.le_refl _) (.int .i64 v4)).setCell (p := ⟨q, 10, none⟩) (Nat.le_refl _) (.int .i64 v5)).setCell (p := ⟨q, 11, none⟩) (Nat.le_refl _) (.int .i64 sw))
  have HH : Hid (∀ k, k ≠ q → ((((((((V2.setCell ⟨q, 4, none⟩ (.int .i64 sk)).setCell ⟨q, 5, none⟩ (.int .i64 v0)).setCell ⟨q, 6, none⟩ (.int .i64 v1)).setCell ⟨q, 7, none⟩ (.int .i64 v2)).setCell ⟨q, 8, none⟩ (.int .i64 v3)).setCell ⟨q, 9, none⟩ (.int .i64 v4)).setCell ⟨q, 10, none⟩ (.int .i64 v5)).setCell ⟨q, 11, none⟩ (.int .i64 sw)).heap[k]? = V2.heap[k]?) := fun k hk => by
    refine (Below.heap_setCell _ ⟨q, 11, none⟩ _ _ hk).trans ?_
    refine (Below.heap_setCell _ ⟨q, 10, none⟩ _ _ hk).trans ?_
    refine (Below.heap_setCell _ ⟨q, 9, none⟩ _ _ hk).trans ?_
    refine (Below.heap_setCell _ ⟨q, 8, none⟩ _ _ hk).trans ?_
    refine (Below.heap_setCell _ ⟨q, 7, none⟩ _ _ hk).trans ?_
    refine (Below.heap_setCell _ ⟨q, 6, none⟩ _ _ hk).trans ?_
    refine (Below.heap_setCell _ ⟨q, 5, none⟩ _ _ hk).trans ?_
    refine (Below.heap_setCell _ ⟨q, 4, none⟩ _ _ hk).trans ?_
    rfl
  go_wp2
  exact bodyPost_end (v := .tuple #[]) (by simp [results, Tryd.results82, go_sem]) rfl ⟨rfl, (Below.mono HBL.out (Nat.le_of_lt hqw)).trans (HBWV2.out.trans HG.out), fun k hk1 hk => (HH.out k hk).trans ((HOV2.out k hk).trans (Below.block HBL.out k hk1)), HF.out⟩

end Go.Proofs.YtefajplbgmikdaaDoor

/-
  The walk of the pen's move.
-/
namespace Go.Proofs.YtefajplbgmikdaaDoor
open Go.RowKit

set_option maxHeartbeats 2000000 in
set_option maxRecDepth 100000 in
theorem move_o6 (p : Pen) (hp : PenOk p) (s : Sg) (hs : SgOk s) (hk1 : s.kind ≠ 1) (hk6 : s.kind ≠ 6) (q : Nat) (w : World) (h : Pn w q p) :
    Calls Tryd.prog 82 #[.pointer (some ⟨q, 0, none⟩), .agg (sgC s).toArray, .int .i64 6] w fun e w' => e = .returned (.tuple #[]) ∧ Below q w w' ∧ KeepBut q w w' ∧ Pn w' q (moveS p s (6 : Nat)) := by
  obtain ⟨x, y, fx, fy, ⟨lk, lv, lw⟩⟩ := p
  obtain ⟨sk, sv, sw⟩ := s
  obtain ⟨l0, l1, l2, l3, l4, l5, rfl⟩ := six hp.last.1
  obtain ⟨v0, v1, v2, v3, v4, v5, rfl⟩ := six hs.1
  dsimp only at hk1 hk6
  have hk1' : (sk == 1) = false := by simpa using hk1
  have hk6' : (sk == 6) = false := by simpa using hk6
  simp only [sgC, List.map_cons, List.map_nil, List.cons_append, List.nil_append]
  have hP := heap_push_of h (.cells #[.int .i64 sk, .int .i64 v0, .int .i64 v1, .int .i64 v2, .int .i64 v3, .int .i64 v4, .int .i64 v5, .int .i64 sw] 36)
  have hB := heap_alloc_new w (.cells #[.int .i64 sk, .int .i64 v0, .int .i64 v1, .int .i64 v2, .int .i64 v3, .int .i64 v4, .int .i64 v5, .int .i64 sw] 36)
  have hbl : Bel w (w.alloc (.cells #[.int .i64 sk, .int .i64 v0, .int .i64 v1, .int .i64 v2, .int .i64 v3, .int .i64 v4, .int .i64 v5, .int .i64 sw] 36)) := (Bel.refl w).alloc _
  have hqB : q < w.heap.size := heap_lt h
  have HBL := Lib.hid hbl
  have hqw : q < w.heap.size := heap_lt h
  have HP := Lib.hid hP
  have HB := Lib.hid hB
  have HM : Hid (moveS ⟨x, y, fx, fy, ⟨lk, [l0, l1, l2, l3, l4, l5], lw⟩⟩ ⟨sk, [v0, v1, v2, v3, v4, v5], sw⟩ (6 : Nat) = ⟨v4, v5, fx, fy, ⟨sk, [v0, v1, v2, v3, v4, v5], sw⟩⟩) := by
    unfold Hid moveS
    simp [hk1, hk6]
  rw [HM.out]
  clear hP hB hbl hk1 hk6
  go_enter Tryd.func82, Tryd.ntmps82
  go_wp2_with fail
  generalize w.alloc (.cells #[.int .i64 sk, .int .i64 v0, .int .i64 v1, .int .i64 v2, .int .i64 v3, .int .i64 v4, .int .i64 v5, .int .i64 sw] 36) = V at HB HP HBL ⊢
  obtain ⟨B, hBw⟩ : ∃ B, w.heap.size = B := ⟨_, rfl⟩
  rw [hBw] at HB hqB ⊢
  have HBw := Lib.hid hBw
  clear hBw
  have c0 : V.cell? ⟨q, 0, none⟩ = some (.int .i64 x) := by rw [heap_cell HP.out]; rfl
  have c1 : V.cell? ⟨q, 1, none⟩ = some (.int .i64 y) := by rw [heap_cell HP.out]; rfl
  have c2 : V.cell? ⟨q, 2, none⟩ = some (.int .i64 fx) := by rw [heap_cell HP.out]; rfl
  have c3 : V.cell? ⟨q, 3, none⟩ = some (.int .i64 fy) := by rw [heap_cell HP.out]; rfl
  have b0 : V.cell? ⟨B, 0, none⟩ = some (.int .i64 sk) := by rw [heap_cell HB.out]; rfl
  have b1 : V.cell? ⟨B, 1, none⟩ = some (.int .i64 v0) := by rw [heap_cell HB.out]; rfl
  have b2 : V.cell? ⟨B, 2, none⟩ = some (.int .i64 v1) := by rw [heap_cell HB.out]; rfl
  have b3 : V.cell? ⟨B, 3, none⟩ = some (.int .i64 v2) := by rw [heap_cell HB.out]; rfl
  have b4 : V.cell? ⟨B, 4, none⟩ = some (.int .i64 v3) := by rw [heap_cell HB.out]; rfl
  have b5 : V.cell? ⟨B, 5, none⟩ = some (.int .i64 v4) := by rw [heap_cell HB.out]; rfl
  have b6 : V.cell? ⟨B, 6, none⟩ = some (.int .i64 v5) := by rw [heap_cell HB.out]; rfl
  have b7 : V.cell? ⟨B, 7, none⟩ = some (.int .i64 sw) := by rw [heap_cell HB.out]; rfl
  have f := fun j => heap_frozen HP.out j
  go_region
  have hP2 : ((V.setCell ⟨q, 0, none⟩ (.int .i64 v4)).setCell ⟨q, 1, none⟩ (.int .i64 v5)).drew.heap[q]? = _ := heap_set (heap_set HP.out 0 (.int .i64 v4)) 1 (.int .i64 v5)
  simp only [penC, sgC, List.map_cons, List.map_nil, List.cons_append, List.nil_append, List.setIfInBounds_toArray, List.set_cons_succ, List.set_cons_zero] at hP2
  have hoff2 : ∀ k, k ≠ q → ((V.setCell ⟨q, 0, none⟩ (.int .i64 v4)).setCell ⟨q, 1, none⟩ (.int .i64 v5)).drew.heap[k]? = V.heap[k]? := fun k hk => (Below.heap_setCell _ ⟨q, 1, none⟩ _ _ hk).trans (Below.heap_setCell _ ⟨q, 0, none⟩ _ _ hk)
  have hb2 : Below q V ((V.setCell ⟨q, 0, none⟩ (.int .i64 v4)).setCell ⟨q, 1, none⟩ (.int .i64 v5)).drew := (((Below.refl q V).setCell (p := ⟨q, 0, none⟩) (Nat.le_refl _) _).setCell (p := ⟨q, 1, none⟩) (Nat.le_refl _) _).drew
  have hB2 := (hoff2 B (by omega)).trans HB.out
  have HP2 := Lib.hid hP2
  have HB2 := Lib.hid hB2
  have HOV2 := Lib.hid hoff2
  have HBWV2 := Lib.hid hb2
  clear hP2 hoff2 hb2 hB2 HP HB c0 c1 c2 c3 f b0 b1 b2 b3 b4 b5 b6 b7
  have HP := HP2
  have HB := HB2
  clear HP2 HB2
  generalize ((V.setCell ⟨q, 0, none⟩ (.int .i64 v4)).setCell ⟨q, 1, none⟩ (.int .i64 v5)).drew = V2 at HP HB HOV2 HBWV2 ⊢
  have b0 : V2.cell? ⟨B, 0, none⟩ = some (.int .i64 sk) := by rw [heap_cell HB.out]; rfl
  have b1 : V2.cell? ⟨B, 1, none⟩ = some (.int .i64 v0) := by rw [heap_cell HB.out]; rfl
  have b2 : V2.cell? ⟨B, 2, none⟩ = some (.int .i64 v1) := by rw [heap_cell HB.out]; rfl
  have b3 : V2.cell? ⟨B, 3, none⟩ = some (.int .i64 v2) := by rw [heap_cell HB.out]; rfl
  have b4 : V2.cell? ⟨B, 4, none⟩ = some (.int .i64 v3) := by rw [heap_cell HB.out]; rfl
  have b5 : V2.cell? ⟨B, 5, none⟩ = some (.int .i64 v4) := by rw [heap_cell HB.out]; rfl
  have b6 : V2.cell? ⟨B, 6, none⟩ = some (.int .i64 v5) := by rw [heap_cell HB.out]; rfl
  have b7 : V2.cell? ⟨B, 7, none⟩ = some (.int .i64 sw) := by rw [heap_cell HB.out]; rfl
  have p4 : V2.cell? ⟨q, 4, none⟩ = some (.int .i64 lk) := by rw [heap_cell HP.out]; rfl
  have p5 : V2.cell? ⟨q, 5, none⟩ = some (.int .i64 l0) := by rw [heap_cell HP.out]; rfl
  have p6 : V2.cell? ⟨q, 6, none⟩ = some (.int .i64 l1) := by rw [heap_cell HP.out]; rfl
  have p7 : V2.cell? ⟨q, 7, none⟩ = some (.int .i64 l2) := by rw [heap_cell HP.out]; rfl
  have p8 : V2.cell? ⟨q, 8, none⟩ = some (.int .i64 l3) := by rw [heap_cell HP.out]; rfl
  have p9 : V2.cell? ⟨q, 9, none⟩ = some (.int .i64 l4) := by rw [heap_cell HP.out]; rfl
  have p10 : V2.cell? ⟨q, 10, none⟩ = some (.int .i64 l5) := by rw [heap_cell HP.out]; rfl
  have p11 : V2.cell? ⟨q, 11, none⟩ = some (.int .i64 lw) := by rw [heap_cell HP.out]; rfl
  have f := fun j => heap_frozen HP.out j
  have hf := (heap_set (heap_set (heap_set (heap_set (heap_set (heap_set (heap_set (heap_set HP.out 4 (.int .i64 sk)) 5 (.int .i64 v0)) 6 (.int .i64 v1)) 7 (.int .i64 v2)) 8 (.int .i64 v3)) 9 (.int .i64 v4)) 10 (.int .i64 v5)) 11 (.int .i64 sw))
  simp only [List.setIfInBounds_toArray, List.set_cons_succ, List.set_cons_zero] at hf
  have HF : Hid (Pn ((((((((V2.setCell ⟨q, 4, none⟩ (.int .i64 sk)).setCell ⟨q, 5, none⟩ (.int .i64 v0)).setCell ⟨q, 6, none⟩ (.int .i64 v1)).setCell ⟨q, 7, none⟩ (.int .i64 v2)).setCell ⟨q, 8, none⟩ (.int .i64 v3)).setCell ⟨q, 9, none⟩ (.int .i64 v4)).setCell ⟨q, 10, none⟩ (.int .i64 v5)).setCell ⟨q, 11, none⟩ (.int .i64 sw)) q ⟨v4, v5, fx, fy, ⟨sk, [v0, v1, v2, v3, v4, v5], sw⟩⟩) := hf
  clear hf
  have HG : Hid (Below q V2 ((((((((V2.setCell ⟨q, 4, none⟩ (.int .i64 sk)).setCell ⟨q, 5, none⟩ (.int .i64 v0)).setCell ⟨q, 6, none⟩ (.int .i64 v1)).setCell ⟨q, 7, none⟩ (.int .i64 v2)).setCell ⟨q, 8, none⟩ (.int .i64 v3)).setCell ⟨q, 9, none⟩ (.int .i64 v4)).setCell ⟨q, 10, none⟩ (.int .i64 v5)).setCell ⟨q, 11, none⟩ (.int .i64 sw))) := (((((((((Below.refl q V2).setCell (p := ⟨q, 4, none⟩) (Nat.le_refl _) (.int .i64 sk)).setCell (p := ⟨q, 5, none⟩) (Nat.le_refl _) (.int .i64 v0)).setCell (p := ⟨q, 6, none⟩) (Nat.le_refl _) (.int .i64 v1)).setCell (p := ⟨q, 7, none⟩) (Nat.le_refl _) (.int .i64 v2)).setCell (p := ⟨q, 8, none⟩) (Nat.le_refl _) (.int .i64 v3)).setCell (p := ⟨q, 9, none⟩) (Nat.le_refl _) (.int .i64 v4)).setCell (p := ⟨q, 10, none⟩) (Nat.le_refl _) (.int .i64 v5)).setCell (p := ⟨q, 11, none⟩) (Nat.le_refl _) (.int .i64 sw))
  have HH : Hid (∀ k, k ≠ q → ((((((((V2.setCell ⟨q, 4, none⟩ (.int .i64 sk)).setCell ⟨q, 5, none⟩ (.int .i64 v0)).setCell ⟨q, 6, none⟩ (.int .i64 v1)).setCell ⟨q, 7, none⟩ (.int .i64 v2)).setCell ⟨q, 8, none⟩ (.int .i64 v3)).setCell ⟨q, 9, none⟩ (.int .i64 v4)).setCell ⟨q, 10, none⟩ (.int .i64 v5)).setCell ⟨q, 11, none⟩ (.int .i64 sw)).heap[k]? = V2.heap[k]?) := fun k hk => by
    refine (Below.heap_setCell _ ⟨q, 11, none⟩ _ _ hk).trans ?_
    refine (Below.heap_setCell _ ⟨q, 10, none⟩ _ _ hk).trans ?_
    refine (Below.heap_setCell _ ⟨q, 9, none⟩ _ _ hk).trans ?_
    refine (Below.heap_setCell _ ⟨q, 8, none⟩ _ _ hk).trans ?_
    refine (Below.heap_setCell _ ⟨q, 7, none⟩ _ _ hk).trans ?_
    refine (Below.heap_setCell _ ⟨q, 6, none⟩ _ _ hk).trans ?_
    refine (Below.heap_setCell _ ⟨q, 5, none⟩ _ _ hk).trans ?_
    refine (Below.heap_setCell _ ⟨q, 4, none⟩ _ _ hk).trans ?_
    rfl
  go_wp2
  exact bodyPost_end (v := .tuple #[]) (by simp [results, Tryd.results82, go_sem]) rfl ⟨rfl, (Below.mono HBL.out (Nat.le_of_lt hqw)).trans (HBWV2.out.trans HG.out), fun k hk1 hk => (HH.out k hk).trans ((HOV2.out k hk).trans (Below.block HBL.out k hk1)), HF.out⟩

end Go.Proofs.YtefajplbgmikdaaDoor

/-
  The pen's move, joined.
-/
namespace Go.Proofs.YtefajplbgmikdaaDoor
open Go.RowKit

theorem move_any (p : Pen) (hp : PenOk p) (s : Sg) (hs : SgOk s) (n : Nat) (hn : (s.kind ≠ 6 → n = 2 ∨ n = 4 ∨ n = 6) ∧ (s.kind = 1 → n = 2)) (q : Nat) (w : World) (h : Pn w q p) :
    Calls Tryd.prog 82 #[.pointer (some ⟨q, 0, none⟩), .agg (sgC s).toArray, .int .i64 n] w fun e w' => e = .returned (.tuple #[]) ∧ Below q w w' ∧ KeepBut q w w' ∧ Pn w' q (moveS p s n) := by
  by_cases h6 : s.kind = 6
  · exact move_close p hp s hs h6 n q w h
  · by_cases h1 : s.kind = 1
    · obtain rfl := hn.2 h1
      exact move_move p hp s hs h1 q w h
    · rcases hn.1 h6 with rfl | rfl | rfl
      · exact move_o2 p hp s hs h1 h6 q w h
      · exact move_o4 p hp s hs h1 h6 q w h
      · exact move_o6 p hp s hs h1 h6 q w h

end Go.Proofs.YtefajplbgmikdaaDoor
