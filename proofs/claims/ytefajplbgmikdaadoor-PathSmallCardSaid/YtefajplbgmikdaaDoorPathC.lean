/-
  The walk of the reader's once.
-/
import Derived.Test.YtefajplbgmikdaaDoorPathB
namespace Go.Proofs.YtefajplbgmikdaaDoor
open Go.RowKit

/-- A part's cells; nv: the slice of its numbers. -/
def partC (q : Part × Value) : List Value := [.int .u8 q.1.r.name, .int .i64 q.1.r.count, .int .i64 q.1.r.kind, .bool q.1.small, .int .i64 q.1.place, q.2]
def partsC (qs : List (Part × Value)) : List Value := qs.flatMap partC
theorem partsC_snoc (qs : List (Part × Value)) (q : Part × Value) : partsC (qs ++ [q]) = partsC qs ++ partC q := by simp [partsC]
theorem infoPart : (Tryd.prog.info? 123).map (fun i => (i.zero, i.size, i.bytes)) = some (some (.agg #[.int .u8 0, .int .i64 0, .int .i64 0, .bool false, .int .i64 0, .slice none 0 0]), 6, 64) := by kernel_rfl

/-- The parts read so far lie in rows of the reader's own, behind its box. -/
def PRow (w : World) (r : Nat) (pv : Value) (ps : List Part) : Prop :=
  ∃ qs : List (Part × Value), qs.map Prod.fst = ps ∧ w.ownsRow (r + 1) 123 6 pv ps.length (partsC qs) ∧ ∀ q ∈ qs, w.ownsRow (r + 1) 106 4 q.2 q.1.nums.length (toksC q.1.nums)
/-- What the reader's own calls leave alone: every block but readers and rows of parts. -/
def Kp (w w' : World) : Prop := ∀ (k : Nat) (o : Obj), w.heap[k]? = some o → (∀ cs fr, o ≠ .cells cs 114 fr) → (∀ cs fr, o ≠ .cells cs 123 fr) → w'.heap[k]? = some o
theorem Kp.refl (w : World) : Kp w w := fun _ _ h _ _ => h
theorem Kp.trans {a b c : World} (h : Kp a b) (h' : Kp b c) : Kp a c := fun k o ho h1 h2 => h' k o (h k o ho h1 h2) h1 h2
theorem Bel.kp {w w' : World} (h : Bel w w') : Kp w w' := fun _ _ ho _ _ => h.heap ho
theorem Kp.own {w w' : World} (h : Kp w w') {base n : Nat} {v : Value} {xs : List Value} (ho : w.ownsRow base 106 4 v n xs) : w'.ownsRow base 106 4 v n xs := by
  refine ⟨ho.1, ?_⟩
  rcases ho.2 with hn | ⟨g, cap, cur, rfl, hb, hgg, rest⟩
  · exact .inl hn
  · exact .inr ⟨g, cap, cur, rfl, hb, h g _ hgg (fun cs fr e => by cases e) (fun cs fr e => by cases e), rest⟩
theorem own_keep {w w' : World} {base e size n : Nat} {v : Value} {xs : List Value} (ho : w.ownsRow base e size v n xs) (h : ∀ k, v.ownBlock = some k → w'.heap[k]? = w.heap[k]?) : w'.ownsRow base e size v n xs := by
  refine ⟨ho.1, ?_⟩
  rcases ho.2 with hn | ⟨g, cap, cur, rfl, hb, hgg, rest⟩
  · exact .inl hn
  · exact .inr ⟨g, cap, cur, rfl, hb, by rw [h g rfl]; exact hgg, rest⟩
theorem own_type {w : World} {base e size n k : Nat} {v : Value} {xs : List Value} (ho : w.ownsRow base e size v n xs) (hk : v.ownBlock = some k) : ∃ cs, w.heap[k]? = some (.cells cs e (0, 0)) := by
  rcases ho.2 with ⟨rfl, _⟩ | ⟨g, cap, cur, rfl, hb, hgg, rest⟩
  · simp [Value.ownBlock] at hk
  · simp [Value.ownBlock] at hk; subst hk; exact ⟨cur, hgg⟩
/-- The reader between its steps. -/
def St (w : World) (r : Nat) (lv : Value) (en : Int) (pv : Value) (l : List Tok) (ps : List Part) : Prop := Rd w r lv en pv (.pointer none) ∧ TokRow w r lv l ∧ PRow w r pv ps
theorem own_base {w : World} {base base' e size n : Nat} {v : Value} {xs : List Value} (ho : w.ownsRow base e size v n xs) (h : base' ≤ base) : w.ownsRow base' e size v n xs := by
  refine ⟨ho.1, ?_⟩
  rcases ho.2 with hn | ⟨g, cap, cur, rfl, hb, rest⟩
  · exact .inl hn
  · exact .inr ⟨g, cap, cur, rfl, by omega, rest⟩
theorem PRow.keep {w w' : World} {r : Nat} {pv : Value} {ps : List Part} (h : PRow w r pv ps) (hk : ∀ k, k < w.heap.size → k ≠ r → w'.heap[k]? = w.heap[k]?) : PRow w' r pv ps := by
  obtain ⟨qs, hq, ho, hn⟩ := h
  exact ⟨qs, hq, own_keep ho fun k h1 => hk k (ho.lt k h1).2 (by have := (ho.lt k h1).1; omega), fun q hq => own_keep (hn q hq) fun k h1 => hk k ((hn q hq).lt k h1).2 (by have := ((hn q hq).lt k h1).1; omega)⟩
/-- In the loop over a letter's numbers: X the rule's box, G the part's. -/
structure On (w0 wr : World) (r G : Nat) (x : Rl) (sm : Bool) (pl en : Int) (lv pv nv : Value) (l ns : List Tok) : Prop where
  rd : Rd wr r lv en pv (.pointer none)
  tok : TokRow wr r lv l
  keep : ∀ k, k < w0.heap.size → k ≠ r → wr.heap[k]? = w0.heap[k]?
  below : Below r w0 wr
  box : wr.heap[w0.heap.size]? = some (.cells #[.int .u8 x.name, .int .i64 x.count, .int .i64 x.kind] 121 (0, 0))
  part : wr.heap[G]? = some (.cells #[.int .u8 x.name, .int .i64 x.count, .int .i64 x.kind, .bool sm, .int .i64 pl, nv] 123 (0, 0))
  own : wr.ownsRow (G + 1) 106 4 nv ns.length (toksC ns)
  old : w0.heap.size < G
  rlt : r < w0.heap.size

theorem on_start {w : World} {r : Nat} {x : Rl} {sm : Bool} {pl en : Int} {ps : List Part} {lv pv : Value} {l : List Tok} (h : St w r lv en pv l ps) :
    On w ((w.alloc (.cells #[.int .u8 x.name, .int .i64 x.count, .int .i64 x.kind] 121)).alloc (.cells #[.int .u8 x.name, .int .i64 x.count, .int .i64 x.kind, .bool sm, .int .i64 pl, .slice none 0 0] 123)) r (w.heap.size + 1) x sm pl en lv pv (.slice none 0 0) l [] := by
  have hb : Bel w ((w.alloc (.cells #[.int .u8 x.name, .int .i64 x.count, .int .i64 x.kind] 121)).alloc (.cells #[.int .u8 x.name, .int .i64 x.count, .int .i64 x.kind, .bool sm, .int .i64 pl, .slice none 0 0] 123)) := ((Bel.refl w).alloc _).alloc _
  obtain ⟨h1, h2, _⟩ := h
  have hlt := heap_lt h1
  refine ⟨hb.heap h1, h2.below (Below.mono hb (by omega)), fun k hk _ => Below.block hb k hk, Below.mono hb (by omega), heap_push_of (heap_alloc_new _ _) _, ?_, World.ownsRow_nil _ _ _ _, by omega, hlt⟩
  have := heap_alloc_new (w.alloc (.cells #[.int .u8 x.name, .int .i64 x.count, .int .i64 x.kind] 121)) (.cells #[.int .u8 x.name, .int .i64 x.count, .int .i64 x.kind, .bool sm, .int .i64 pl, .slice none 0 0] 123)
  simpa using this
theorem own_ne {w : World} {base e size n r : Nat} {v : Value} {xs : List Value} (ho : w.ownsRow base e size v n xs) (h : r < base) : some r ≠ v.ownBlock := fun e => by have := (ho.lt r e.symm).1; omega
theorem on_step {w0 wr V w1 : World} {r G : Nat} {x : Rl} {sm : Bool} {pl en : Int} {lv pv nv nv' lv' : Value} {t : Tok} {l ns : List Tok} (h : On w0 wr r G x sm pl en lv pv nv (t :: l) ns)
    (hV : Bel wr V) (hg : V.grownBy w1 nv.ownBlock) (ho : w1.ownsRow (G + 1) 106 4 nv' (ns.length + 1) (toksC ns ++ tokC t)) (hl : TokRow wr r lv' l) :
    On w0 ((w1.setCell ⟨G, 5, none⟩ nv').setCell ⟨r, 0, none⟩ lv') r G x sm pl en lv' pv nv' l (ns ++ [t]) := by
  have hrG : r < G := by have := h.old; have := h.rlt; omega
  have hGlt := heap_lt h.part
  have hk1 : ∀ k, k < wr.heap.size → k ≤ G → w1.heap[k]? = wr.heap[k]? := fun k hk hkG => by
    rw [hg.block k (Nat.lt_of_lt_of_le hk hV.size) (own_ne h.own (by omega)), Below.block hV k hk]
  have hr1 : w1.heap[r]? = some (.cells #[lv, .int .i64 en, pv, .pointer none] 114 (0, 0)) := (hk1 r (heap_lt h.rd) (by omega)).trans h.rd
  have hG1 := (hk1 G hGlt (Nat.le_refl _)).trans h.part
  have hk2 : ∀ k, k < wr.heap.size → k < G → k ≠ r → ((w1.setCell ⟨G, 5, none⟩ nv').setCell ⟨r, 0, none⟩ lv').heap[k]? = wr.heap[k]? := fun k hk hkG hkr => by
    rw [Below.heap_setCell _ _ _ _ (by simpa using hkr), Below.heap_setCell _ _ _ _ (by simp; omega)]
    exact hk1 k hk (by omega)
  have hbel : Below r wr ((w1.setCell ⟨G, 5, none⟩ nv').setCell ⟨r, 0, none⟩ lv') :=
    (((Below.mono hV (by have := heap_lt h.rd; omega)).grown hg (Nat.le_trans (Nat.le_of_lt (heap_lt h.rd)) hV.size) (fun k hk => by have := (h.own.lt k hk).1; omega)).setCell (p := ⟨G, 5, none⟩) (by simp; omega) nv').setCell (p := ⟨r, 0, none⟩) (Nat.le_refl _) lv'
  have hold := h.old
  refine ⟨?_, hl.below hbel, fun k hk hkr => (hk2 k (Nat.lt_of_lt_of_le hk (Below.size h.below)) (by omega) hkr).trans (h.keep k hk hkr), h.below.trans hbel, (hk2 _ (heap_lt h.box) (by omega) (by have := h.rlt; omega)).trans h.box, ?_, ?_, h.old, h.rlt⟩
  · exact heap_set ((Below.heap_setCell w1 ⟨G, 5, none⟩ nv' r (by simp; omega)).trans hr1) 0 lv'
  · rw [Below.heap_setCell _ _ _ _ (by simp; omega)]
    exact heap_set hG1 5 nv'
  · rw [toksC_snoc, List.length_append]
    refine own_keep ho fun k hk => ?_
    have := (ho.lt k hk).1
    rw [Below.heap_setCell _ _ _ _ (by simp; omega), Below.heap_setCell _ _ _ _ (by simp; omega)]
theorem on_mid {w0 wr V w1 : World} {r G : Nat} {x : Rl} {sm : Bool} {pl en : Int} {lv pv nv : Value} {l ns : List Tok} (h : On w0 wr r G x sm pl en lv pv nv l ns) (hV : Bel wr V) (hg : V.grownBy w1 nv.ownBlock) :
    w1.cell? ⟨G, 5, none⟩ = some nv ∧ w1.frozen? ⟨G, 5, none⟩ = false ∧ (∀ v, (w1.setCell ⟨G, 5, none⟩ v).cell? ⟨r, 0, none⟩ = some lv) ∧ ∀ v, (w1.setCell ⟨G, 5, none⟩ v).frozen? ⟨r, 0, none⟩ = false := by
  have hrG : r < G := by have := h.old; have := h.rlt; omega
  have hk1 : ∀ k, k < wr.heap.size → k ≤ G → w1.heap[k]? = wr.heap[k]? := fun k hk hkG => by
    rw [hg.block k (Nat.lt_of_lt_of_le hk hV.size) (own_ne h.own (by omega)), Below.block hV k hk]
  have hG1 := (hk1 G (heap_lt h.part) (Nat.le_refl _)).trans h.part
  have hr1 : w1.heap[r]? = some (.cells #[lv, .int .i64 en, pv, .pointer none] 114 (0, 0)) := (hk1 r (heap_lt h.rd) (by omega)).trans h.rd
  have hr2 : ∀ v, (w1.setCell ⟨G, 5, none⟩ v).heap[r]? = some (.cells #[lv, .int .i64 en, pv, .pointer none] 114 (0, 0)) := fun v => (Below.heap_setCell w1 ⟨G, 5, none⟩ v r (by simp; omega)).trans hr1
  exact ⟨by rw [heap_cell hG1]; rfl, heap_frozen hG1 5, fun v => by rw [heap_cell (hr2 v)]; rfl, fun v => heap_frozen (hr2 v) 0⟩
theorem PRow.keep' {w w' : World} {r e size n : Nat} {pv : Value} {xs : List Value} (hk : ∀ k, k < w.heap.size → k ≠ r → w'.heap[k]? = w.heap[k]?) (ho : w.ownsRow (r + 1) e size pv n xs) : w'.ownsRow (r + 1) e size pv n xs :=
  own_keep ho fun k h1 => hk k (ho.lt k h1).2 (by have := (ho.lt k h1).1; omega)
theorem on_fin {w0 wr V w1 : World} {r G n : Nat} {x : Rl} {sm : Bool} {pl en : Int} {lv pv nv : Value} {l ns : List Tok} {xs : List Value} (h : On w0 wr r G x sm pl en lv pv nv l ns) (hV : Bel wr V) (hg : V.grownBy w1 pv.ownBlock)
    (hqo : w0.ownsRow (r + 1) 123 6 pv n xs) : w1.cell? ⟨r, 2, none⟩ = some pv ∧ w1.frozen? ⟨r, 2, none⟩ = false := by
  have hr1 : w1.heap[r]? = some (.cells #[lv, .int .i64 en, pv, .pointer none] 114 (0, 0)) := by
    rw [hg.block r (Nat.lt_of_lt_of_le (heap_lt h.rd) hV.size) (own_ne hqo (by omega)), Below.block hV r (heap_lt h.rd)]
    exact h.rd
  exact ⟨by rw [heap_cell hr1]; rfl, heap_frozen hr1 2⟩
theorem on_end {xs : List Value} {w0 wr V w1 : World} {r G : Nat} {x : Rl} {sm : Bool} {pl en : Int} {lv pv nv pv' : Value} {ps : List Part} {l l0 ns : List Tok} {lv0 : Value} (h0 : St w0 r lv0 en pv l0 ps) (h : On w0 wr r G x sm pl en lv pv nv l ns)
    (hV : Bel wr V) (hg : V.grownBy w1 pv.ownBlock) (hown : w1.ownsRow (r + 1) 123 6 pv' (ps.length + 1) (xs ++ partC (⟨x, sm, pl, ns⟩, nv)))
    {qs : List (Part × Value)} (hqs : qs.map Prod.fst = ps) (hqo : w0.ownsRow (r + 1) 123 6 pv ps.length (partsC qs)) (hqn : ∀ q ∈ qs, w0.ownsRow (r + 1) 106 4 q.2 q.1.nums.length (toksC q.1.nums)) (hxs : xs = partsC qs) :
    St (w1.setCell ⟨r, 2, none⟩ pv') r lv en pv' l (ps ++ [⟨x, sm, pl, ns⟩]) ∧ Below r w0 (w1.setCell ⟨r, 2, none⟩ pv') ∧ Kp w0 (w1.setCell ⟨r, 2, none⟩ pv') := by
  subst hxs
  have hk1 : ∀ k, k < wr.heap.size → some k ≠ pv.ownBlock → w1.heap[k]? = wr.heap[k]? := fun k hk hkp => by
    rw [hg.block k (Nat.lt_of_lt_of_le hk hV.size) hkp, Below.block hV k hk]
  have hr1 : w1.heap[r]? = some (.cells #[lv, .int .i64 en, pv, .pointer none] 114 (0, 0)) := (hk1 r (heap_lt h.rd) (own_ne hqo (by omega))).trans h.rd
  have hset : ∀ k, k ≠ r → (w1.setCell ⟨r, 2, none⟩ pv').heap[k]? = w1.heap[k]? := fun k hk => Below.heap_setCell _ _ _ _ (by simpa using hk)
  have hbel : Below r wr (w1.setCell ⟨r, 2, none⟩ pv') :=
    ((Below.mono hV (by have := heap_lt h.rd; omega)).grown hg (Nat.le_trans (Nat.le_of_lt (heap_lt h.rd)) hV.size) (fun k hk => by have := (hqo.lt k hk).1; omega)).setCell (p := ⟨r, 2, none⟩) (Nat.le_refl _) pv'
  have hold := h.old
  have hrlt := h.rlt
  have hsz := Below.size h.below
  -- a block of the old world that is no row of the parts
  have hkeep : ∀ k, k < w0.heap.size → k ≠ r → some k ≠ pv.ownBlock → (w1.setCell ⟨r, 2, none⟩ pv').heap[k]? = w0.heap[k]? := fun k hk hkr hkp => by
    rw [hset k hkr, hk1 k (by omega) hkp, h.keep k hk hkr]
  have htok : ∀ (v : Value) (base n : Nat) (zs : List Value), r < base → w0.ownsRow base 106 4 v n zs → (w1.setCell ⟨r, 2, none⟩ pv').ownsRow base 106 4 v n zs := fun v base n zs hb hz => own_keep hz fun k hk => by
    have hlt := hz.lt k hk
    refine hkeep k hlt.2 (by omega) fun e => ?_
    obtain ⟨c1, e1⟩ := own_type hz hk
    obtain ⟨c2, e2⟩ := own_type hqo e.symm
    rw [e1] at e2
    cases e2
  refine ⟨⟨heap_set hr1 2 pv', h.tok.below hbel, qs ++ [(⟨x, sm, pl, ns⟩, nv)], by simp [hqs], ?_, fun q hq => ?_⟩, h.below.trans hbel, fun k o ho h1 h2 => ?_⟩
  · rw [partsC_snoc, List.length_append]
    exact own_keep hown fun k hk => hset k (by have := (hown.lt k hk).1; omega)
  · rcases List.mem_append.1 hq with hq | hq
    · exact htok _ _ _ _ (by omega) (hqn q hq)
    · simp only [List.mem_singleton] at hq
      subst hq
      refine own_keep (own_base h.own (by omega)) fun k hk => ?_
      have hlt := h.own.lt k hk
      rw [hset k (by omega), hk1 k hlt.2 fun e => ?_]
      have := (hqo.lt k e.symm).2
      omega
  · have hkr : k ≠ r := fun e => by
      subst e
      rw [h0.1] at ho
      exact h1 _ _ (Option.some.inj ho).symm
    refine (hkeep k (heap_lt ho) hkr fun e => ?_).trans ho
    obtain ⟨c2, e2⟩ := own_type hqo e.symm
    rw [e2] at ho
    exact h2 _ _ (Option.some.inj ho).symm
theorem KeepBut.kp {w w' : World} {r : Nat} (h : KeepBut r w w') (hr : ∃ cs fr, w.heap[r]? = some (.cells cs 114 fr)) : Kp w w' := fun k o ho h1 _ => by
  refine (h k (heap_lt ho) fun e => ?_).trans ho
  subst e
  obtain ⟨cs, fr, hr⟩ := hr
  rw [hr] at ho
  exact h1 _ _ (Option.some.inj ho).symm
theorem on_bad {w0 wr w1 : World} {r G : Nat} {x : Rl} {sm : Bool} {pl en : Int} {lv pv nv : Value} {l ns : List Tok} {ps : List Part} {lv0 : Value} {l0 : List Tok} (h0 : St w0 r lv0 en pv l0 ps) (h : On w0 wr r G x sm pl en lv pv nv l ns)
    (hb : Below r wr w1) (hk : KeepBut r wr w1) : Below r w0 w1 ∧ Kp w0 w1 :=
  ⟨h.below.trans hb, KeepBut.kp (fun k hk1 hk2 => (hk k (Nat.lt_of_lt_of_le hk1 (Below.size h.below)) hk2).trans (h.keep k hk1 hk2)) ⟨_, _, h0.1⟩⟩
end Go.Proofs.YtefajplbgmikdaaDoor
