/-
  The walks of the reader's fail, place, number.
-/
import Derived.Test.YtefajplbgmikdaaDoorCmj2
import Derived.Deep.RegionLaw
import Derived.Test.YtefajplbgmikdaaDoorCmj1
namespace Go.Proofs.YtefajplbgmikdaaDoor
open Go.RowKit

theorem heap_cell {w : World} {r : Nat} {cs : Array Value} {t : TypeId} (h : w.heap[r]? = some (.cells cs t (0, 0))) (j : Nat) : w.cell? ⟨r, j, none⟩ = cs[j]? := by simp [World.cell?, h]
theorem heap_frozen {w : World} {r : Nat} {cs : Array Value} {t : TypeId} (h : w.heap[r]? = some (.cells cs t (0, 0))) (j : Nat) : w.frozen? ⟨r, j, none⟩ = false := by simp [World.frozen?, h]
theorem heap_set {w : World} {r : Nat} {cs : Array Value} {t : TypeId} (h : w.heap[r]? = some (.cells cs t (0, 0))) (j : Nat) (v : Value) : (w.setCell ⟨r, j, none⟩ v).heap[r]? = some (.cells (cs.setIfInBounds j v) t (0, 0)) := by
  simp [World.setCell, Array.getElem?_modify, h]
theorem heap_lt {w : World} {r : Nat} {o : Obj} (h : w.heap[r]? = some o) : r < w.heap.size := (Array.getElem?_eq_some_iff.1 h).1
theorem heap_push_of {w : World} {r : Nat} {o : Obj} (h : w.heap[r]? = some o) (q : Obj) : (w.alloc q).heap[r]? = some o := (Below.heap_alloc _ _ _ (heap_lt h)).trans h
theorem Bel.heap {w w' : World} (h : Bel w w') {r : Nat} {o : Obj} (hr : w.heap[r]? = some o) : w'.heap[r]? = some o := (Below.block h r (heap_lt hr)).trans hr

/-- The reader's box. -/
def Rd (w : World) (r : Nat) (lv : Value) (en : Int) (pv bv : Value) : Prop := w.heap[r]? = some (.cells #[lv, .int .i64 en, pv, bv] 114 (0, 0))
theorem Rd.all {w : World} {r : Nat} {lv pv bv : Value} {en : Int} (h : Rd w r lv en pv bv) : (w.cell? ⟨r, 0, none⟩ = some lv ∧ w.cell? ⟨r, 1, none⟩ = some (.int .i64 en) ∧ w.cell? ⟨r, 2, none⟩ = some pv ∧ w.cell? ⟨r, 3, none⟩ = some bv) ∧ ∀ j, w.frozen? ⟨r, j, none⟩ = false :=
  ⟨⟨by rw [heap_cell h]; rfl, by rw [heap_cell h]; rfl, by rw [heap_cell h]; rfl, by rw [heap_cell h]; rfl⟩, fun j => heap_frozen h j⟩
/-- A row of tokens, in a block below N. -/
def TokRow (w : World) (N : Nat) (lv : Value) (l : List Tok) : Prop :=
  ∃ p c, lv = .slice p l.length c ∧ l.length ≤ c ∧ (l = [] ∨ ∃ b o, p = some ⟨b, o, none⟩ ∧ b < N ∧ ∀ (i : Nat) t, l[i]? = some t → ∀ j v, (tokC t)[j]? = some v → w.cell? ⟨b, o + i * 4 + j, none⟩ = some v)
theorem TokRow.below {w w' : World} {N : Nat} {lv : Value} {l : List Tok} (h : TokRow w N lv l) (hb : Below N w w') : TokRow w' N lv l := by
  obtain ⟨p, c, e, hl, h⟩ := h
  refine ⟨p, c, e, hl, ?_⟩
  rcases h with h | ⟨b, o, rfl, hlt, hc⟩
  · exact .inl h
  · exact .inr ⟨b, o, rfl, hlt, fun i t hi j v hv => (hb.cell (p := ⟨b, o + i * 4 + j, none⟩) hlt).trans (hc i t hi j v hv)⟩
theorem TokRow.mono {w : World} {N M : Nat} {lv : Value} {l : List Tok} (h : TokRow w N lv l) (hn : N ≤ M) : TokRow w M lv l := by
  obtain ⟨p, c, e, hl, h⟩ := h
  refine ⟨p, c, e, hl, ?_⟩
  rcases h with h | ⟨b, o, rfl, hlt, hc⟩
  · exact .inl h
  · exact .inr ⟨b, o, rfl, by omega, hc⟩
theorem TokRow.cons {w : World} {N : Nat} {lv : Value} {t : Tok} {l : List Tok} (h : TokRow w N lv (t :: l)) : ∃ b o c, lv = .slice (some ⟨b, o, none⟩) (l.length + 1) c ∧ l.length + 1 ≤ c ∧ b < N ∧
    (w.cell? ⟨b, o, none⟩ = some (.int .i64 t.kind) ∧ w.cell? ⟨b, o + 1, none⟩ = some (.string ⟨t.s.toArray⟩) ∧ w.cell? ⟨b, o + 2, none⟩ = some (.int .i64 t.n) ∧ w.cell? ⟨b, o + 3, none⟩ = some (.int .i64 t.place)) ∧
    TokRow w N (.slice (if c = 1 then some ⟨b, o, none⟩ else some ⟨b, o + 4, none⟩) l.length (c - 1)) l := by
  obtain ⟨p, c, rfl, hl, h⟩ := h
  rcases h with h | ⟨b, o, rfl, hlt, hc⟩
  · cases h
  · have hl' : l.length + 1 ≤ c := by simpa using hl
    have h0 := hc 0 t rfl
    refine ⟨b, o, c, rfl, hl', hlt, ⟨by have := h0 0 _ rfl; simpa using this, by have := h0 1 _ rfl; simpa using this, by have := h0 2 _ rfl; simpa using this, by have := h0 3 _ rfl; simpa using this⟩, _, _, rfl, by omega, ?_⟩
    by_cases h1 : l = []
    · exact .inl h1
    · have : 0 < l.length := List.length_pos_iff.2 h1
      rw [if_neg (by omega)]
      exact .inr ⟨b, o + 4, rfl, hlt, fun i t' hi j v hv => by
        have := hc (i + 1) t' (by simpa using hi) j v hv
        rwa [show o + (i + 1) * 4 + j = o + 4 + i * 4 + j by omega] at this⟩

theorem place_any (r : Nat) (lv pv bv : Value) (en : Int) (l : List Tok) (N : Nat) (w : World) (hr : Rd w r lv en pv bv) (hl : TokRow w N lv l) :
    Calls Tryd.prog 106 #[.pointer (some ⟨r, 0, none⟩)] w fun e w' => e = .returned (.int .i64 (placeS en l)) ∧ w = w' := by
  obtain ⟨⟨hc0, hc1, hc2, hc3⟩, _⟩ := hr.all
  cases l with
  | nil =>
    obtain ⟨p, c, rfl, _⟩ := hl
    go_enter Tryd.func106, Tryd.ntmps106
    go_wp2
    go_ret
    exact ⟨rfl, rfl⟩
  | cons t l =>
    obtain ⟨b, o, c, rfl, hc, _, ⟨q0, q1, q2, q3⟩, _⟩ := hl.cons
    clear hr hl hc
    go_enter Tryd.func106, Tryd.ntmps106
    go_wp2
    go_ret
    exact ⟨rfl, rfl⟩
theorem number_yes (r : Nat) (lv pv bv : Value) (en : Int) (l : List Tok) (N : Nat) (w : World) (hr : Rd w r lv en pv bv) (hl : TokRow w N lv l) :
    Calls Tryd.prog 105 #[.pointer (some ⟨r, 0, none⟩)] w fun e w' => e = .returned (.bool (numS l)) ∧ w = w' := by
  obtain ⟨⟨hc0, hc1, hc2, hc3⟩, _⟩ := hr.all
  cases l with
  | nil =>
    obtain ⟨p, c, rfl, _⟩ := hl
    go_enter Tryd.func105, Tryd.ntmps105
    go_wp2
    go_ret
    exact ⟨rfl, rfl⟩
  | cons t l =>
    obtain ⟨b, o, c, rfl, hc, _, ⟨q0, q1, q2, q3⟩, _⟩ := hl.cons
    have hp : decide ((0 : Int) < (l.length : Int) + 1) = true := decide_eq_true (by omega)
    have hn : numS (t :: l) = (t.kind == 2) := by rw [numS, Bool.eq_iff_iff]; simp
    rw [hn]
    clear hr hl hc hn
    go_enter Tryd.func105, Tryd.ntmps105
    go_wp2
    go_ret
    exact ⟨rfl, rfl⟩
/-- An error is noted. -/
def Bad (w : World) (r : Nat) (lv : Value) (en : Int) (pv : Value) (a : Int) : Prop := ∃ b, Rd w r lv en pv (.pointer (some ⟨b, 0, none⟩)) ∧ r < b ∧ w.heap[b]? = some (.cells #[.int .i64 a, .int .i64 20] 116 (0, 0))
/-- All old blocks but one are as they were. -/
def KeepBut (r : Nat) (w w' : World) : Prop := ∀ k, k < w.heap.size → k ≠ r → w'.heap[k]? = w.heap[k]?
theorem fail_any (r : Nat) (lv pv bv : Value) (en a : Int) (w : World) (hr : Rd w r lv en pv bv) :
    Calls Tryd.prog 79 #[.pointer (some ⟨r, 0, none⟩), .int .i64 a] w fun e w' => e = .returned (.tuple #[]) ∧ Below r w w' ∧ KeepBut r w w' ∧ Bad w' r lv en pv a := by
  have hfin : ∀ V, V = (w.alloc (.cells #[.int .i64 a, .int .i64 20] 116)).setCell ⟨r, 3, none⟩ (.pointer (some ⟨w.heap.size, 0, none⟩)) → Below r w V ∧ KeepBut r w V ∧ Bad V r lv en pv a := by
    rintro V rfl
    have hlt := heap_lt hr
    have h1 := heap_set (heap_push_of hr (.cells #[.int .i64 a, .int .i64 20] 116)) 3 (.pointer (some ⟨w.heap.size, 0, none⟩))
    refine ⟨((Below.refl r w).alloc (by omega) _).setCell (p := ⟨r, 3, none⟩) (Nat.le_refl _) _, fun k hk hkr => by rw [Below.heap_setCell _ _ _ _ (by simpa using hkr)]; exact Below.heap_alloc _ _ _ hk, w.heap.size, h1, hlt, ?_⟩
    rw [Below.heap_setCell _ _ _ _ (by simp; omega)]
    exact heap_alloc_new _ _
  have HF := Lib.hid hfin
  have hc3 : ∀ o, (w.alloc o).cell? ⟨r, 3, none⟩ = some bv := fun o => by rw [heap_cell (heap_push_of hr o)]; rfl
  have hf3 : ∀ o, (w.alloc o).frozen? ⟨r, 3, none⟩ = false := fun o => heap_frozen (heap_push_of hr o) 3
  clear hr hfin
  go_enter Tryd.func79, Tryd.ntmps79
  go_wp2
  exact bodyPost_end (v := .tuple #[]) (by simp [results, Tryd.results79, go_sem]) rfl ⟨rfl, HF.out _ rfl⟩
end Go.Proofs.YtefajplbgmikdaaDoor

/-
  The walk of the reader's once.
-/
namespace Go.Proofs.YtefajplbgmikdaaDoor
open Go.RowKit

/-- A part's cells; nv: the slice of its numbers. -/
def partC (q : Part × Value) : List Value := [.int .u8 q.1.r.name, .int .i64 q.1.r.count, .int .i64 q.1.r.kind, .bool q.1.small, .int .i64 q.1.place, q.2]
def partsC (qs : List (Part × Value)) : List Value := qs.flatMap partC
theorem partsC_snoc (qs : List (Part × Value)) (q : Part × Value) : partsC (qs ++ [q]) = partsC qs ++ partC q := by simp [partsC]
theorem infoPart : (Tryd.prog.info? 123).map (fun i => (i.zero, i.size, i.bytes)) = some (some (.agg #[.int .u8 0, .int .i64 0, .int .i64 0, .bool false, .int .i64 0, .slice none 0 0]), 6, 64) := by kernel_rfl

/-- The parts read so far lie in rows of the reader's own, behind its box. -/
def PRow (w : World) (r : Nat) (pv : Value) (ps : List Part) : Prop :=
  ∃ qs : List (Part × Value), qs.map Prod.fst = ps ∧ w.ownsRow (r + 1) 123 6 pv ps.length (partsC qs) ∧ ∀ q ∈ qs, w.ownsRow (r + 1) 106 4 q.2 q.1.nums.length (toksC q.1.nums)
/-- What the reader's own calls leave alone: every block but readers and rows of parts. -/
def Kp (w w' : World) : Prop := ∀ (k : Nat) (o : Obj), w.heap[k]? = some o → (∀ cs fr, o ≠ .cells cs 114 fr) → (∀ cs fr, o ≠ .cells cs 123 fr) → w'.heap[k]? = some o
theorem Kp.refl (w : World) : Kp w w := fun _ _ h _ _ => h
theorem Kp.trans {a b c : World} (h : Kp a b) (h' : Kp b c) : Kp a c := fun k o ho h1 h2 => h' k o (h k o ho h1 h2) h1 h2
theorem Bel.kp {w w' : World} (h : Bel w w') : Kp w w' := fun _ _ ho _ _ => h.heap ho
theorem Kp.own {w w' : World} (h : Kp w w') {base n : Nat} {v : Value} {xs : List Value} (ho : w.ownsRow base 106 4 v n xs) : w'.ownsRow base 106 4 v n xs := by
  refine ⟨ho.1, ?_⟩
  rcases ho.2 with hn | ⟨g, cap, cur, rfl, hb, hgg, rest⟩
  · exact .inl hn
  · exact .inr ⟨g, cap, cur, rfl, hb, h g _ hgg (fun cs fr e => by cases e) (fun cs fr e => by cases e), rest⟩
theorem own_keep {w w' : World} {base e size n : Nat} {v : Value} {xs : List Value} (ho : w.ownsRow base e size v n xs) (h : ∀ k, v.ownBlock = some k → w'.heap[k]? = w.heap[k]?) : w'.ownsRow base e size v n xs := by
  refine ⟨ho.1, ?_⟩
  rcases ho.2 with hn | ⟨g, cap, cur, rfl, hb, hgg, rest⟩
  · exact .inl hn
  · exact .inr ⟨g, cap, cur, rfl, hb, by rw [h g rfl]; exact hgg, rest⟩
theorem own_type {w : World} {base e size n k : Nat} {v : Value} {xs : List Value} (ho : w.ownsRow base e size v n xs) (hk : v.ownBlock = some k) : ∃ cs, w.heap[k]? = some (.cells cs e (0, 0)) := by
  rcases ho.2 with ⟨rfl, _⟩ | ⟨g, cap, cur, rfl, hb, hgg, rest⟩
  · simp [Value.ownBlock] at hk
  · simp [Value.ownBlock] at hk; subst hk; exact ⟨cur, hgg⟩
/-- The reader between its steps. -/
def St (w : World) (r : Nat) (lv : Value) (en : Int) (pv : Value) (l : List Tok) (ps : List Part) : Prop := Rd w r lv en pv (.pointer none) ∧ TokRow w r lv l ∧ PRow w r pv ps
theorem own_base {w : World} {base base' e size n : Nat} {v : Value} {xs : List Value} (ho : w.ownsRow base e size v n xs) (h : base' ≤ base) : w.ownsRow base' e size v n xs := by
  refine ⟨ho.1, ?_⟩
  rcases ho.2 with hn | ⟨g, cap, cur, rfl, hb, rest⟩
  · exact .inl hn
  · exact .inr ⟨g, cap, cur, rfl, by omega, rest⟩
theorem PRow.keep {w w' : World} {r : Nat} {pv : Value} {ps : List Part} (h : PRow w r pv ps) (hk : ∀ k, k < w.heap.size → k ≠ r → w'.heap[k]? = w.heap[k]?) : PRow w' r pv ps := by
  obtain ⟨qs, hq, ho, hn⟩ := h
  exact ⟨qs, hq, own_keep ho fun k h1 => hk k (ho.lt k h1).2 (by have := (ho.lt k h1).1; omega), fun q hq => own_keep (hn q hq) fun k h1 => hk k ((hn q hq).lt k h1).2 (by have := ((hn q hq).lt k h1).1; omega)⟩
/-- In the loop over a letter's numbers: X the rule's box, G the part's. -/
structure On (w0 wr : World) (r G : Nat) (x : Rl) (sm : Bool) (pl en : Int) (lv pv nv : Value) (l ns : List Tok) : Prop where
  rd : Rd wr r lv en pv (.pointer none)
  tok : TokRow wr r lv l
  keep : ∀ k, k < w0.heap.size → k ≠ r → wr.heap[k]? = w0.heap[k]?
  below : Below r w0 wr
  box : wr.heap[w0.heap.size]? = some (.cells #[.int .u8 x.name, .int .i64 x.count, .int .i64 x.kind] 121 (0, 0))
  part : wr.heap[G]? = some (.cells #[.int .u8 x.name, .int .i64 x.count, .int .i64 x.kind, .bool sm, .int .i64 pl, nv] 123 (0, 0))
  own : wr.ownsRow (G + 1) 106 4 nv ns.length (toksC ns)
  old : w0.heap.size < G
  rlt : r < w0.heap.size

theorem on_start {w : World} {r : Nat} {x : Rl} {sm : Bool} {pl en : Int} {ps : List Part} {lv pv : Value} {l : List Tok} (h : St w r lv en pv l ps) :
    On w ((w.alloc (.cells #[.int .u8 x.name, .int .i64 x.count, .int .i64 x.kind] 121)).alloc (.cells #[.int .u8 x.name, .int .i64 x.count, .int .i64 x.kind, .bool sm, .int .i64 pl, .slice none 0 0] 123)) r (w.heap.size + 1) x sm pl en lv pv (.slice none 0 0) l [] := by
  have hb : Bel w ((w.alloc (.cells #[.int .u8 x.name, .int .i64 x.count, .int .i64 x.kind] 121)).alloc (.cells #[.int .u8 x.name, .int .i64 x.count, .int .i64 x.kind, .bool sm, .int .i64 pl, .slice none 0 0] 123)) := ((Bel.refl w).alloc _).alloc _
  obtain ⟨h1, h2, _⟩ := h
  have hlt := heap_lt h1
  refine ⟨hb.heap h1, h2.below (Below.mono hb (by omega)), fun k hk _ => Below.block hb k hk, Below.mono hb (by omega), heap_push_of (heap_alloc_new _ _) _, ?_, World.ownsRow_nil _ _ _ _, by omega, hlt⟩
  have := heap_alloc_new (w.alloc (.cells #[.int .u8 x.name, .int .i64 x.count, .int .i64 x.kind] 121)) (.cells #[.int .u8 x.name, .int .i64 x.count, .int .i64 x.kind, .bool sm, .int .i64 pl, .slice none 0 0] 123)
  simpa using this
theorem own_ne {w : World} {base e size n r : Nat} {v : Value} {xs : List Value} (ho : w.ownsRow base e size v n xs) (h : r < base) : some r ≠ v.ownBlock := fun e => by have := (ho.lt r e.symm).1; omega
theorem on_step {w0 wr V w1 : World} {r G : Nat} {x : Rl} {sm : Bool} {pl en : Int} {lv pv nv nv' lv' : Value} {t : Tok} {l ns : List Tok} (h : On w0 wr r G x sm pl en lv pv nv (t :: l) ns)
    (hV : Bel wr V) (hg : V.grownBy w1 nv.ownBlock) (ho : w1.ownsRow (G + 1) 106 4 nv' (ns.length + 1) (toksC ns ++ tokC t)) (hl : TokRow wr r lv' l) :
    On w0 ((w1.setCell ⟨G, 5, none⟩ nv').setCell ⟨r, 0, none⟩ lv') r G x sm pl en lv' pv nv' l (ns ++ [t]) := by
  have hrG : r < G := by have := h.old; have := h.rlt; omega
  have hGlt := heap_lt h.part
  have hk1 : ∀ k, k < wr.heap.size → k ≤ G → w1.heap[k]? = wr.heap[k]? := fun k hk hkG => by
    rw [hg.block k (Nat.lt_of_lt_of_le hk hV.size) (own_ne h.own (by omega)), Below.block hV k hk]
  have hr1 : w1.heap[r]? = some (.cells #[lv, .int .i64 en, pv, .pointer none] 114 (0, 0)) := (hk1 r (heap_lt h.rd) (by omega)).trans h.rd
  have hG1 := (hk1 G hGlt (Nat.le_refl _)).trans h.part
  have hk2 : ∀ k, k < wr.heap.size → k < G → k ≠ r → ((w1.setCell ⟨G, 5, none⟩ nv').setCell ⟨r, 0, none⟩ lv').heap[k]? = wr.heap[k]? := fun k hk hkG hkr => by
    rw [Below.heap_setCell _ _ _ _ (by simpa using hkr), Below.heap_setCell _ _ _ _ (by simp; omega)]
    exact hk1 k hk (by omega)
  have hbel : Below r wr ((w1.setCell ⟨G, 5, none⟩ nv').setCell ⟨r, 0, none⟩ lv') :=
    (((Below.mono hV (by have := heap_lt h.rd; omega)).grown hg (Nat.le_trans (Nat.le_of_lt (heap_lt h.rd)) hV.size) (fun k hk => by have := (h.own.lt k hk).1; omega)).setCell (p := ⟨G, 5, none⟩) (by simp; omega) nv').setCell (p := ⟨r, 0, none⟩) (Nat.le_refl _) lv'
  have hold := h.old
  refine ⟨?_, hl.below hbel, fun k hk hkr => (hk2 k (Nat.lt_of_lt_of_le hk (Below.size h.below)) (by omega) hkr).trans (h.keep k hk hkr), h.below.trans hbel, (hk2 _ (heap_lt h.box) (by omega) (by have := h.rlt; omega)).trans h.box, ?_, ?_, h.old, h.rlt⟩
  · exact heap_set ((Below.heap_setCell w1 ⟨G, 5, none⟩ nv' r (by simp; omega)).trans hr1) 0 lv'
  · rw [Below.heap_setCell _ _ _ _ (by simp; omega)]
    exact heap_set hG1 5 nv'
  · rw [toksC_snoc, List.length_append]
    refine own_keep ho fun k hk => ?_
    have := (ho.lt k hk).1
    rw [Below.heap_setCell _ _ _ _ (by simp; omega), Below.heap_setCell _ _ _ _ (by simp; omega)]
theorem on_mid {w0 wr V w1 : World} {r G : Nat} {x : Rl} {sm : Bool} {pl en : Int} {lv pv nv : Value} {l ns : List Tok} (h : On w0 wr r G x sm pl en lv pv nv l ns) (hV : Bel wr V) (hg : V.grownBy w1 nv.ownBlock) :
    w1.cell? ⟨G, 5, none⟩ = some nv ∧ w1.frozen? ⟨G, 5, none⟩ = false ∧ (∀ v, (w1.setCell ⟨G, 5, none⟩ v).cell? ⟨r, 0, none⟩ = some lv) ∧ ∀ v, (w1.setCell ⟨G, 5, none⟩ v).frozen? ⟨r, 0, none⟩ = false := by
  have hrG : r < G := by have := h.old; have := h.rlt; omega
  have hk1 : ∀ k, k < wr.heap.size → k ≤ G → w1.heap[k]? = wr.heap[k]? := fun k hk hkG => by
    rw [hg.block k (Nat.lt_of_lt_of_le hk hV.size) (own_ne h.own (by omega)), Below.block hV k hk]
  have hG1 := (hk1 G (heap_lt h.part) (Nat.le_refl _)).trans h.part
  have hr1 : w1.heap[r]? = some (.cells #[lv, .int .i64 en, pv, .pointer none] 114 (0, 0)) := (hk1 r (heap_lt h.rd) (by omega)).trans h.rd
  have hr2 : ∀ v, (w1.setCell ⟨G, 5, none⟩ v).heap[r]? = some (.cells #[lv, .int .i64 en, pv, .pointer none] 114 (0, 0)) := fun v => (Below.heap_setCell w1 ⟨G, 5, none⟩ v r (by simp; omega)).trans hr1
  exact ⟨by rw [heap_cell hG1]; rfl, heap_frozen hG1 5, fun v => by rw [heap_cell (hr2 v)]; rfl, fun v => heap_frozen (hr2 v) 0⟩
theorem PRow.keep' {w w' : World} {r e size n : Nat} {pv : Value} {xs : List Value} (hk : ∀ k, k < w.heap.size → k ≠ r → w'.heap[k]? = w.heap[k]?) (ho : w.ownsRow (r + 1) e size pv n xs) : w'.ownsRow (r + 1) e size pv n xs :=
  own_keep ho fun k h1 => hk k (ho.lt k h1).2 (by have := (ho.lt k h1).1; omega)
theorem on_fin {w0 wr V w1 : World} {r G n : Nat} {x : Rl} {sm : Bool} {pl en : Int} {lv pv nv : Value} {l ns : List Tok} {xs : List Value} (h : On w0 wr r G x sm pl en lv pv nv l ns) (hV : Bel wr V) (hg : V.grownBy w1 pv.ownBlock)
    (hqo : w0.ownsRow (r + 1) 123 6 pv n xs) : w1.cell? ⟨r, 2, none⟩ = some pv ∧ w1.frozen? ⟨r, 2, none⟩ = false := by
  have hr1 : w1.heap[r]? = some (.cells #[lv, .int .i64 en, pv, .pointer none] 114 (0, 0)) := by
    rw [hg.block r (Nat.lt_of_lt_of_le (heap_lt h.rd) hV.size) (own_ne hqo (by omega)), Below.block hV r (heap_lt h.rd)]
    exact h.rd
  exact ⟨by rw [heap_cell hr1]; rfl, heap_frozen hr1 2⟩
theorem on_end {xs : List Value} {w0 wr V w1 : World} {r G : Nat} {x : Rl} {sm : Bool} {pl en : Int} {lv pv nv pv' : Value} {ps : List Part} {l l0 ns : List Tok} {lv0 : Value} (h0 : St w0 r lv0 en pv l0 ps) (h : On w0 wr r G x sm pl en lv pv nv l ns)
    (hV : Bel wr V) (hg : V.grownBy w1 pv.ownBlock) (hown : w1.ownsRow (r + 1) 123 6 pv' (ps.length + 1) (xs ++ partC (⟨x, sm, pl, ns⟩, nv)))
    {qs : List (Part × Value)} (hqs : qs.map Prod.fst = ps) (hqo : w0.ownsRow (r + 1) 123 6 pv ps.length (partsC qs)) (hqn : ∀ q ∈ qs, w0.ownsRow (r + 1) 106 4 q.2 q.1.nums.length (toksC q.1.nums)) (hxs : xs = partsC qs) :
    St (w1.setCell ⟨r, 2, none⟩ pv') r lv en pv' l (ps ++ [⟨x, sm, pl, ns⟩]) ∧ Below r w0 (w1.setCell ⟨r, 2, none⟩ pv') ∧ Kp w0 (w1.setCell ⟨r, 2, none⟩ pv') := by
  subst hxs
  have hk1 : ∀ k, k < wr.heap.size → some k ≠ pv.ownBlock → w1.heap[k]? = wr.heap[k]? := fun k hk hkp => by
    rw [hg.block k (Nat.lt_of_lt_of_le hk hV.size) hkp, Below.block hV k hk]
  have hr1 : w1.heap[r]? = some (.cells #[lv, .int .i64 en, pv, .pointer none] 114 (0, 0)) := (hk1 r (heap_lt h.rd) (own_ne hqo (by omega))).trans h.rd
  have hset : ∀ k, k ≠ r → (w1.setCell ⟨r, 2, none⟩ pv').heap[k]? = w1.heap[k]? := fun k hk => Below.heap_setCell _ _ _ _ (by simpa using hk)
  have hbel : Below r wr (w1.setCell ⟨r, 2, none⟩ pv') :=
    ((Below.mono hV (by have := heap_lt h.rd; omega)).grown hg (Nat.le_trans (Nat.le_of_lt (heap_lt h.rd)) hV.size) (fun k hk => by have := (hqo.lt k hk).1; omega)).setCell (p := ⟨r, 2, none⟩) (Nat.le_refl _) pv'
  have hold := h.old
  have hrlt := h.rlt
  have hsz := Below.size h.below
  -- a block of the old world that is no row of the parts
  have hkeep : ∀ k, k < w0.heap.size → k ≠ r → some k ≠ pv.ownBlock → (w1.setCell ⟨r, 2, none⟩ pv').heap[k]? = w0.heap[k]? := fun k hk hkr hkp => by
    rw [hset k hkr, hk1 k (by omega) hkp, h.keep k hk hkr]
  have htok : ∀ (v : Value) (base n : Nat) (zs : List Value), r < base → w0.ownsRow base 106 4 v n zs → (w1.setCell ⟨r, 2, none⟩ pv').ownsRow base 106 4 v n zs := fun v base n zs hb hz => own_keep hz fun k hk => by
    have hlt := hz.lt k hk
    refine hkeep k hlt.2 (by omega) fun e => ?_
    obtain ⟨c1, e1⟩ := own_type hz hk
    obtain ⟨c2, e2⟩ := own_type hqo e.symm
    rw [e1] at e2
    cases e2
  refine ⟨⟨heap_set hr1 2 pv', h.tok.below hbel, qs ++ [(⟨x, sm, pl, ns⟩, nv)], by simp [hqs], ?_, fun q hq => ?_⟩, h.below.trans hbel, fun k o ho h1 h2 => ?_⟩
  · rw [partsC_snoc, List.length_append]
    exact own_keep hown fun k hk => hset k (by have := (hown.lt k hk).1; omega)
  · rcases List.mem_append.1 hq with hq | hq
    · exact htok _ _ _ _ (by omega) (hqn q hq)
    · simp only [List.mem_singleton] at hq
      subst hq
      refine own_keep (own_base h.own (by omega)) fun k hk => ?_
      have hlt := h.own.lt k hk
      rw [hset k (by omega), hk1 k hlt.2 fun e => ?_]
      have := (hqo.lt k e.symm).2
      omega
  · have hkr : k ≠ r := fun e => by
      subst e
      rw [h0.1] at ho
      exact h1 _ _ (Option.some.inj ho).symm
    refine (hkeep k (heap_lt ho) hkr fun e => ?_).trans ho
    obtain ⟨c2, e2⟩ := own_type hqo e.symm
    rw [e2] at ho
    exact h2 _ _ (Option.some.inj ho).symm
theorem KeepBut.kp {w w' : World} {r : Nat} (h : KeepBut r w w') (hr : ∃ cs fr, w.heap[r]? = some (.cells cs 114 fr)) : Kp w w' := fun k o ho h1 _ => by
  refine (h k (heap_lt ho) fun e => ?_).trans ho
  subst e
  obtain ⟨cs, fr, hr⟩ := hr
  rw [hr] at ho
  exact h1 _ _ (Option.some.inj ho).symm
theorem on_bad {w0 wr w1 : World} {r G : Nat} {x : Rl} {sm : Bool} {pl en : Int} {lv pv nv : Value} {l ns : List Tok} {ps : List Part} {lv0 : Value} {l0 : List Tok} (h0 : St w0 r lv0 en pv l0 ps) (h : On w0 wr r G x sm pl en lv pv nv l ns)
    (hb : Below r wr w1) (hk : KeepBut r wr w1) : Below r w0 w1 ∧ Kp w0 w1 :=
  ⟨h.below.trans hb, KeepBut.kp (fun k hk1 hk2 => (hk k (Nat.lt_of_lt_of_le hk1 (Below.size h.below)) hk2).trans (h.keep k hk1 hk2)) ⟨_, _, h0.1⟩⟩
end Go.Proofs.YtefajplbgmikdaaDoor

/-
  The walk of the reader's once.
-/
namespace Go.Proofs.YtefajplbgmikdaaDoor
open Go.RowKit

/-- What 'once' leaves behind. -/
def OncePost (w : World) (r : Nat) (en : Int) (s : Except Int (List Tok × List Part)) (e : Ending) (w' : World) : Prop :=
  e = .returned (.tuple #[]) ∧ Below r w w' ∧ Kp w w' ∧ match s with
    | .ok (l, ps) => ∃ lv pv, St w' r lv en pv l ps
    | .error a => ∃ lv pv, Bad w' r lv en pv a
/-- The numbers that are still to come. -/
def Rest (en : Int) (ct i : Nat) (l0 l ns : List Tok) : Prop := takeNums en ct l0 = match takeNums en (ct - i) l with | .ok (a, r) => .ok (ns ++ a, r) | .error e => .error e
theorem rest_start (en : Int) (ct : Nat) (l : List Tok) : Rest en ct 0 l l [] := by
  unfold Rest
  rw [Nat.sub_zero]
  cases takeNums en ct l with
  | ok p => obtain ⟨a, b⟩ := p; rfl
  | error e => rfl
theorem rest_step {en : Int} {ct i : Nat} {l0 l ns : List Tok} {t : Tok} (h : Rest en ct i l0 (t :: l) ns) (hi : i < ct) (ht : t.kind = 2) : Rest en ct (i + 1) l0 l (ns ++ [t]) := by
  unfold Rest at h ⊢
  rw [h]
  obtain ⟨k, hk⟩ : ∃ k, ct - i = k + 1 := ⟨ct - i - 1, by omega⟩
  rw [hk, show ct - (i + 1) = k by omega, takeNums, if_pos ht]
  cases takeNums en k l with
  | ok p => obtain ⟨a, b⟩ := p; simp
  | error e => rfl
theorem rest_bad {en : Int} {ct i : Nat} {l0 l ns : List Tok} (h : Rest en ct i l0 l ns) (hi : i < ct) (ht : numS l = false) : takeNums en ct l0 = .error (placeS en l) := by
  unfold Rest at h
  rw [h]
  obtain ⟨k, hk⟩ : ∃ k, ct - i = k + 1 := ⟨ct - i - 1, by omega⟩
  rw [hk]
  cases l with
  | nil => rfl
  | cons t l => rw [takeNums, if_neg (by simpa [numS] using ht)]; rfl
theorem rest_end {en : Int} {ct i : Nat} {l0 l ns : List Tok} (h : Rest en ct i l0 l ns) (hi : i = ct) : takeNums en ct l0 = .ok (ns, l) := by
  unfold Rest at h
  rw [h, hi, Nat.sub_self]
  simp [takeNums]

set_option maxHeartbeats 2000000 in
set_option maxRecDepth 100000 in
theorem once_any (x : Rl) (hx : x.count ≤ 6) (sm : Bool) (pl en : Int) (r : Nat) (lv0 pv : Value) (l0 : List Tok) (ps : List Part) (hps : ps.length ≤ 1000000000) (w : World) (hst : St w r lv0 en pv l0 ps) :
    Calls Tryd.prog 104 #[.pointer (some ⟨r, 0, none⟩), rlV x, .bool sm, .int .i64 pl] w (OncePost w r en (onceS en x sm pl l0 ps)) := by
  have HST := Lib.hid hst
  have hon := on_start (x := x) (sm := sm) (pl := pl) hst
  have HON := Lib.hid hon
  clear hst hon
  obtain ⟨nm, ct, kn⟩ := x
  dsimp only at hx
  unfold rlV
  dsimp only at HON ⊢
  go_enter Tryd.func104, Tryd.ntmps104
  go_wp2
  go_loopw [15] (fun i wr => ∃ (k : Nat) (lv nv : Value) (l ns : List Tok), i = .int .i64 k ∧ k ≤ ct ∧ ns.length = k ∧ Rest en ct k l0 l ns ∧ On w wr r (w.heap.size + 1) ⟨nm, ct, kn⟩ sm pl en lv pv nv l ns) (fun i _ => ct - (intOf i).toNat)
  case atStart => exact ⟨0, lv0, .slice none 0 0, l0, [], rfl, by omega, rfl, rest_start _ _ _, HON.out⟩
  case round =>
    obtain ⟨k, lv, nv, l, ns, rfl, hk, hns, hR, hO⟩ := hrel
    have HR := Lib.hid hR
    have HO := Lib.hid hO
    have HNS := Lib.hid hns
    clear hR hO hns
    by_cases hkc : k < ct
    · have hnum := number_yes r lv pv (.pointer none) en l r wr HO.out.rd HO.out.tok
      have hpla := place_any r lv pv (.pointer none) en l r wr HO.out.rd HO.out.tok
      cases hn : numS l with
      | false =>
        rw [hn] at hnum
        go_wp2_with (first
          | (go_at_call 105; (with_reducible refine hnum.mono ?_); rintro e w1 ⟨rfl, rfl⟩)
          | (go_at_call 106; (with_reducible refine hpla.mono ?_); rintro e w1 ⟨rfl, rfl⟩)
          | (go_at_call 79; (with_reducible refine (fail_any r lv pv (.pointer none) en _ _ HO.out.rd).mono ?_); rintro e w1 ⟨rfl, hb1, hk1, hbad⟩; have HB1 := Lib.hid (on_bad HST.out HO.out hb1 hk1); have HBAD := Lib.hid hbad; clear hb1 hk1 hbad))
        refine bodyPost_ret (v := .tuple #[]) (by simp [results, Tryd.results104, go_sem]) rfl ⟨rfl, HB1.out.1, HB1.out.2, ?_⟩
        rw [onceS, rest_bad HR.out hkc hn]
        exact ⟨_, _, HBAD.out⟩
      | true =>
        obtain ⟨t, l', rfl, ht⟩ : ∃ t l', l = t :: l' ∧ t.kind = 2 := by
          cases l with
          | nil => simp [numS] at hn
          | cons t l' => exact ⟨t, l', rfl, by simpa [numS] using hn⟩
        obtain ⟨tb, to', tc, rfl, htc, htb, htk, htl⟩ := HO.out.tok.cons
        have htk' := Lib.hid htk
        rw [hn] at hnum
        have HT := Lib.hid ht
        have HTL := Lib.hid htl
        clear hpla htk hn ht htl
        obtain ⟨kd0, s0, n0, p0⟩ := t
        obtain ⟨q0, q1, q2, q3⟩ := htk'.out
        dsimp only at q0 q1 q2 q3
        clear htk'
        obtain ⟨⟨c0, c1, c2, c3⟩, cf⟩ := HO.out.rd.all
        have g5 : wr.cell? ⟨w.heap.size + 1, 5, none⟩ = some nv := by rw [heap_cell HO.out.part]; rfl
        have g5' : ∀ o, (wr.alloc o).cell? ⟨w.heap.size + 1, 5, none⟩ = some nv := fun o => ((Bel.refl wr).alloc o).cell g5
        have hmx : ns.length + 1 ≤ maxLen := by have := HNS.out; unfold maxLen; omega
        have hmb : (ns.length + 1) * 40 ≤ 140737488355328 := by have := HNS.out; omega
        have hbs : w.heap.size + 1 + 1 ≤ wr.heap.size := by have := heap_lt HO.out.part; omega
        go_wp2_with (first
          | (go_at_call 105; (with_reducible refine hnum.mono ?_); rintro e w1 ⟨rfl, rfl⟩))
        go_region_law (refine step_push (by rfl) (.tmp 25) (.tmp 32) 67 (by rfl) (w.heap.size + 1 + 1) 106 _ 4 40 Tryd.underlying67 infoTok (by rfl) (by decide) nv ns.length (toksC ns) (by rfl) (Bel.own ((Bel.refl _).drew.alloc _) HO.out.own) _ (0, 0) _ (by rfl) (heap_alloc_new _ _) (by rfl) (by simp [Value.oneCell']) hmx hmb (by simp; omega) ?_; intro g' cap w1 ho1 hg1; have hmid := on_mid HO.out ((Bel.refl _).drew.alloc _) hg1; have m1 := hmid.1; have m2 := hmid.2.1; have m3 := hmid.2.2.1; have m4 := hmid.2.2.2; clear hmid)
        all_goals
          have HS := Lib.hid (fun lv' hl' => on_step (nv' := .slice (some ⟨g', 0, none⟩) (ns.length + 1) cap) (lv' := lv') HO.out (by first | exact ((Bel.refl _).drew.alloc _) | exact ((Bel.refl _).alloc _).drew) hg1 ho1 hl')
          clear ho1 hg1
          go_wp2
          go_roundw
          case rel => exact ⟨k + 1, _, _, l', _, rfl, by omega, by rw [List.length_append, HNS.out]; rfl, rest_step HR.out hkc HT.out, HS.out _ HTL.out⟩
          case measure => simp [intOf]; omega
    · obtain rfl : k = ct := by omega
      obtain ⟨qs, hqs, hqo, hqn⟩ := HST.out.2.2
      have HQS := Lib.hid hqs
      have HQO := Lib.hid hqo
      have HQN := Lib.hid hqn
      clear hqs hqo hqn
      obtain ⟨⟨c0, c1, c2, c3⟩, cf⟩ := HO.out.rd.all
      have gp := fun j => heap_cell HO.out.part j
      have g0 : wr.cell? ⟨w.heap.size + 1, 0, none⟩ = some (.int .u8 nm) := gp 0
      have g1 : wr.cell? ⟨w.heap.size + 1, 1, none⟩ = some (.int .i64 k) := gp 1
      have g2 : wr.cell? ⟨w.heap.size + 1, 2, none⟩ = some (.int .i64 kn) := gp 2
      have g3 : wr.cell? ⟨w.heap.size + 1, 3, none⟩ = some (.bool sm) := gp 3
      have g4 : wr.cell? ⟨w.heap.size + 1, 4, none⟩ = some (.int .i64 pl) := gp 4
      have g5 : wr.cell? ⟨w.heap.size + 1, 5, none⟩ = some nv := gp 5
      have c2' : ∀ o, (wr.alloc o).cell? ⟨r, 2, none⟩ = some pv := fun o => ((Bel.refl wr).alloc o).cell c2
      clear gp
      have hmx : ps.length + 1 ≤ maxLen := by unfold maxLen; omega
      have hmb : (ps.length + 1) * 64 ≤ 140737488355328 := by omega
      have hbs : r + 1 ≤ wr.heap.size := by have := heap_lt HO.out.rd; omega
      have hnv : nv.oneCell' = true := by
        rcases HO.out.own.2 with ⟨h, _⟩ | ⟨g, cap, cur, h, _⟩ <;> rw [h] <;> rfl
      have hall : ∀ u ∈ (#[.int .u8 nm, .int .i64 k, .int .i64 kn, .bool sm, .int .i64 pl, nv] : Array Value).toList, u.oneCell' = true := by
        intro u hu
        rcases List.mem_cons.1 hu with rfl | hu
        · rfl
        rcases List.mem_cons.1 hu with rfl | hu
        · rfl
        rcases List.mem_cons.1 hu with rfl | hu
        · rfl
        rcases List.mem_cons.1 hu with rfl | hu
        · rfl
        rcases List.mem_cons.1 hu with rfl | hu
        · rfl
        rw [List.mem_singleton.1 hu]
        exact hnv
      have HALL := Lib.hid hall
      clear hall
      have HOWN : Hid (wr.ownsRow (r + 1) 123 6 pv ps.length (partsC qs)) := (PRow.keep' HO.out.keep HQO.out)
      go_wp2
      go_region_law (refine step_push (by rfl) (.tmp 48) (.tmp 50) 111 (by rfl) (r + 1) 123 _ 6 64 Tryd.underlying111 infoPart (by rfl) (by decide) pv ps.length (partsC qs) (by rfl) (Bel.own ((Bel.refl _).drew.alloc _) HOWN.out) _ (0, 0) _ (by rfl) (heap_alloc_new _ _) (by rfl) HALL.out hmx hmb (by simp; omega) ?_; intro g' cap w1 ho1 hg1; have hend := on_fin HO.out ((Bel.refl _).drew.alloc _) hg1 HQO.out; have m1 := hend.1; have m2 := hend.2; clear hend)
      all_goals
        have HE := Lib.hid (on_end (ns := ns) HST.out HO.out (by first | exact ((Bel.refl _).drew.alloc _) | exact ((Bel.refl _).alloc _).drew) hg1 ho1 HQS.out HQO.out HQN.out rfl)
        clear ho1 hg1
        refine bodyPost_end (v := .tuple #[]) (by simp [results, Tryd.results104, go_sem]) rfl ⟨rfl, HE.out.2.1, HE.out.2.2, ?_⟩
        rw [onceS, rest_end HR.out rfl]
        exact ⟨_, _, HE.out.1⟩
end Go.Proofs.YtefajplbgmikdaaDoor

/-
  The walk of the reader's letter.
-/
namespace Go.Proofs.YtefajplbgmikdaaDoor
open Go.RowKit

theorem find_row {c : Nat} {x : Rl} (h : ruleOf c = some x) : findS c = (x, smallC c, true) := by unfold findS; rw [h]
theorem find_not {c : Nat} (h : ruleOf c = none) : findS c = (⟨0, 0, 0⟩, false, false) := by unfold findS; rw [h]
theorem rule_mem {c : Nat} {x : Rl} (h : ruleOf c = some x) : x ∈ rulesL := List.mem_of_find?_eq_some h
theorem rule_small {x : Rl} (h : x ∈ rulesL) : x.count ≤ 6 ∧ x.name < 256 ∧ x.kind ≤ 6 := by
  have : ∀ x ∈ rulesL, x.count ≤ 6 ∧ x.name < 256 ∧ x.kind ≤ 6 := by decide
  exact this x h
/-- The row of parts: how it looks. -/
theorem prow_none {w : World} {r : Nat} {pv : Value} (h : PRow w r pv []) : ∃ p c, pv = .slice p 0 c := by
  obtain ⟨qs, _, ho, _⟩ := h
  rcases ho.2 with ⟨rfl, _⟩ | ⟨g, cap, cur, rfl, _⟩
  · exact ⟨none, 0, rfl⟩
  · exact ⟨_, cap, rfl⟩
theorem prow_some {w : World} {r : Nat} {pv : Value} {ps : List Part} {x : Part} (h : PRow w r pv (ps ++ [x])) : ∃ g cap, pv = .slice (some ⟨g, 0, none⟩) (ps.length + 1) cap ∧ w.cell? ⟨g, ps.length * 6 + 2, none⟩ = some (.int .i64 x.r.kind) := by
  obtain ⟨qs, hq, ho, _⟩ := h
  rw [List.length_append] at ho
  obtain ⟨g, cap, rfl, _, _⟩ := ho.form (by simp)
  refine ⟨g, cap, rfl, ?_⟩
  have hql : qs.length = ps.length + 1 := by have := congrArg List.length hq; simpa using this
  obtain ⟨q1, q2, rfl⟩ : ∃ q1 q2, qs = q1 ++ [q2] := ⟨qs.dropLast, qs.getLast (by intro e; rw [e] at hql; simp at hql), (List.dropLast_concat_getLast _).symm⟩
  simp only [List.map_append, List.map_cons, List.map_nil] at hq
  obtain ⟨e1, e2⟩ := List.append_inj' hq rfl
  have hx : q2.1 = x := by simpa using e2
  have hl1 : q1.length = ps.length := by simpa using hql
  have hlen : ∀ l : List (Part × Value), (partsC l).length = l.length * 6 := by
    intro l
    induction l with
    | nil => rfl
    | cons a l ih => simp only [partsC, List.flatMap_cons, List.length_append, List.length_cons] at ih ⊢; rw [ih]; simp [partC]; omega
  have := World.ownsRow.cellAt ho (ps.length * 6 + 2) (by simp; omega)
  rw [this, partsC_snoc, List.getElem?_append_right (by rw [hlen]; omega), hlen, hl1, show ps.length * 6 + 2 - ps.length * 6 = 2 by omega, ← hx]
  rfl
def letterBad (c : Nat) (ps : List Part) : Prop := ruleOf c = none ∨ ∃ x, ruleOf c = some x ∧ ((ps = [] ∧ x.kind ≠ 1) ∨ (x.kind = 6 ∧ lastKind ps = 6))
theorem letter_bad {c : Nat} {ps : List Part} (h : letterBad c ps) (en pl : Int) (more : Bool) (l : List Tok) : letterS en c pl more l ps = .error pl := by
  unfold letterS
  rcases h with h | ⟨x, h, hb⟩
  · rw [h]
  · rw [h]; simp only; rw [if_pos hb]
theorem lastKind_snoc (ps : List Part) (x : Part) : lastKind (ps ++ [x]) = x.r.kind := by simp [lastKind]

theorem St.rd {w : World} {r : Nat} {lv pv : Value} {en : Int} {l : List Tok} {ps : List Part} (h : St w r lv en pv l ps) : Rd w r lv en pv (.pointer none) := h.1
theorem st_bel {w w' : World} {r : Nat} {lv pv : Value} {en : Int} {l : List Tok} {ps : List Part} (h : St w r lv en pv l ps) (hb : Bel w w') : St w' r lv en pv l ps := by
  obtain ⟨h1, h2, h3⟩ := h
  exact ⟨hb.heap h1, h2.below (Below.mono hb (by have := heap_lt h1; omega)), h3.keep fun k hk _ => Below.block hb k hk⟩
theorem st_facts {w : World} {r : Nat} {lv pv : Value} {en : Int} {l : List Tok} {ps : List Part} (h : St w r lv en pv l ps) :
    (∀ o, (w.alloc o).cell? ⟨r, 2, none⟩ = some pv) ∧ ∃ p c, pv = .slice p ps.length c := by
  refine ⟨fun o => by rw [heap_cell (heap_push_of h.1 o)]; rfl, ?_⟩
  obtain ⟨qs, _, ho, _⟩ := h.2.2
  rcases ho.2 with ⟨rfl, h0⟩ | ⟨g, cap, cur, rfl, _⟩
  · exact ⟨none, 0, by rw [h0]⟩
  · exact ⟨_, cap, rfl⟩
theorem bad_post {w w1 w2 : World} {r : Nat} {lv pv : Value} {en a : Int} {l : List Tok} {ps : List Part} (h : St w r lv en pv l ps) (hb : Bel w w1) (h2 : Below r w1 w2) (hk : KeepBut r w1 w2) (hbad : Bad w2 r lv en pv a) :
    OncePost w r en (.error a) (.returned (.tuple #[])) w2 :=
  ⟨rfl, (Below.mono hb (by have := heap_lt h.1; omega)).trans h2, Kp.trans hb.kp (hk.kp ⟨_, _, hb.heap h.1⟩), _, _, hbad⟩
set_option maxHeartbeats 2000000 in
set_option maxRecDepth 100000 in
theorem letter_fails (c : Nat) (hc : c < 256) (more : Bool) (pl en : Int) (r : Nat) (lv pv : Value) (l : List Tok) (ps : List Part) (hps : ps.length ≤ 1000000000) (w : World) (hr : Rul w) (hst : St w r lv en pv l ps) (hbad : letterBad c ps) :
    Calls Tryd.prog 80 #[.pointer (some ⟨r, 0, none⟩), .int .u8 c, .int .i64 pl, .bool more] w (OncePost w r en (letterS en c pl more l ps)) := by
  rw [letter_bad hbad]
  have HST := Lib.hid hst
  have hfd := find_any c w hc hr
  clear hr hst
  rcases hbad with hb | ⟨x, hx, hb⟩
  · have hf := find_not hb
    unfold FindPost at hfd
    rw [hf] at hfd
    go_enter Tryd.func80, Tryd.ntmps80
    go_wp2_with fail
    refine hfd.mono ?_
    rintro e w1 ⟨rfl, hb1⟩
    have HS1 := Lib.hid (st_bel HST.out hb1)
    have HB1 := Lib.hid hb1
    obtain ⟨q2, hpv⟩ := st_facts HS1.out
    obtain ⟨pp, pc, rfl⟩ := hpv
    clear hb1
    unfold rlV
    go_wp2_with (first
      | (go_at_call 79; (with_reducible refine (fail_any r lv _ (.pointer none) en _ _ (st_bel HS1.out ((Bel.refl _).alloc _)).rd).mono ?_); rintro e w2 ⟨rfl, hb2, hk2, hbad⟩; have HX := Lib.hid (bad_post HST.out (Bel.trans HB1.out ((Bel.refl _).alloc _)) hb2 hk2 hbad); clear hb2 hk2 hbad))
    exact bodyPost_ret (v := .tuple #[]) (by simp [results, Tryd.results80, go_sem]) rfl HX.out
  · have hf := find_row hx
    unfold FindPost at hfd
    rw [hf] at hfd
    have hsm := rule_small (rule_mem hx)
    obtain ⟨nm, ct, kn⟩ := x
    dsimp only at hsm hb
    obtain ⟨hs1, hs2, hs3⟩ := hsm
    have HB := Lib.hid hb
    clear hb
    go_enter Tryd.func80, Tryd.ntmps80
    go_wp2_with fail
    refine hfd.mono ?_
    rintro e w1 ⟨rfl, hb1⟩
    have HS1 := Lib.hid (st_bel HST.out hb1)
    have HB1 := Lib.hid hb1
    clear hb1
    rcases HB.out with ⟨rfl, hk⟩ | ⟨rfl, hk⟩
    · obtain ⟨q2, pp, pc, rfl⟩ := st_facts HS1.out
      have hk1 : ((kn : Int) != 1) = true := by simp; omega
      unfold rlV
      go_wp2_with (first
      | (go_at_call 79; (with_reducible refine (fail_any r lv _ (.pointer none) en _ _ (st_bel HS1.out ((Bel.refl _).alloc _)).rd).mono ?_); rintro e w2 ⟨rfl, hb2, hk2, hbad⟩; have HX := Lib.hid (bad_post HST.out (Bel.trans HB1.out ((Bel.refl _).alloc _)) hb2 hk2 hbad); clear hb2 hk2 hbad))
      exact bodyPost_ret (v := .tuple #[]) (by simp [results, Tryd.results80, go_sem]) rfl HX.out
    · obtain ⟨ini, z, rfl⟩ : ∃ ini z, ps = ini ++ [z] := by
        have hne : ps ≠ [] := fun e => by rw [e] at hk; simp [lastKind] at hk
        exact ⟨ps.dropLast, ps.getLast hne, (List.dropLast_concat_getLast hne).symm⟩
      have hil : ini.length ≤ 1000000000 := by simp at hps; omega
      rw [lastKind_snoc] at hk
      have hq2 := (st_facts HS1.out).1
      obtain ⟨g, cap, rfl, hzk⟩ := prow_some HS1.out.2.2
      have hzk2 : ∀ o, (w1.alloc o).cell? ⟨g, ini.length * 6 + 2, none⟩ = some (.int .i64 6) := fun o => by
        have := ((Bel.refl w1).alloc o).cell hzk
        rwa [hk] at this
      clear hzk hk
      unfold rlV
      go_wp2_with (first
      | (go_at_call 79; (with_reducible refine (fail_any r lv _ (.pointer none) en _ _ (st_bel HS1.out ((Bel.refl _).alloc _)).rd).mono ?_); rintro e w2 ⟨rfl, hb2, hk2, hbad⟩; have HX := Lib.hid (bad_post HST.out (Bel.trans HB1.out ((Bel.refl _).alloc _)) hb2 hk2 hbad); clear hb2 hk2 hbad))
      exact bodyPost_ret (v := .tuple #[]) (by simp [results, Tryd.results80, go_sem]) rfl HX.out
end Go.Proofs.YtefajplbgmikdaaDoor

/-
  The walk of the reader's letter, where it goes on.
-/
namespace Go.Proofs.YtefajplbgmikdaaDoor
open Go.RowKit

theorem Rul.below {w w' : World} {r : Nat} (h : Rul w) (hb : Below r w w') (hg : 2 < r) : Rul w' := fun j v hj => (hb.cell (p := ⟨2, 0 + j, none⟩) hg).trans (h j v hj)
/-- The rule's box in the letter's own frame. -/
def Bx (w : World) (X : Nat) (x : Rl) : Prop := w.heap[X]? = some (.cells #[.int .u8 x.name, .int .i64 x.count, .int .i64 x.kind] 121 (0, 0))
theorem Bx.kp {w w' : World} {X : Nat} {x : Rl} (h : Bx w X x) (hk : Kp w w') : Bx w' X x := hk X _ h (fun cs fr e => by cases e) (fun cs fr e => by cases e)
theorem Bx.all {w : World} {X : Nat} {x : Rl} (h : Bx w X x) : (w.cell? ⟨X, 0, none⟩ = some (.int .u8 x.name) ∧ w.cell? ⟨X, 1, none⟩ = some (.int .i64 x.count) ∧ w.cell? ⟨X, 2, none⟩ = some (.int .i64 x.kind)) ∧ ∀ j, w.frozen? ⟨X, j, none⟩ = false :=
  ⟨⟨by rw [heap_cell h]; rfl, by rw [heap_cell h]; rfl, by rw [heap_cell h]; rfl⟩, heap_frozen h⟩
/-- Another rule is laid into the box. -/
def set3 (w : World) (X : Nat) (y : Rl) : World := ((w.setCell ⟨X, 0, none⟩ (.int .u8 y.name)).setCell ⟨X, 1, none⟩ (.int .i64 y.count)).setCell ⟨X, 2, none⟩ (.int .i64 y.kind)
theorem Bx.set {w : World} {X : Nat} {x : Rl} (h : Bx w X x) (y : Rl) : Bx (set3 w X y) X y := heap_set (heap_set (heap_set h 0 _) 1 _) 2 _
theorem set3_off {w : World} {X : Nat} (y : Rl) {k : Nat} (hk : k ≠ X) : (set3 w X y).heap[k]? = w.heap[k]? := by
  unfold set3
  rw [Below.heap_setCell _ _ _ _ (by simpa using hk), Below.heap_setCell _ _ _ _ (by simpa using hk), Below.heap_setCell _ _ _ _ (by simpa using hk)]
theorem set3_below {w : World} {r X : Nat} (y : Rl) (h : r ≤ X) : Below r w (set3 w X y) := (((Below.refl r w).setCell (p := ⟨X, 0, none⟩) h _).setCell (p := ⟨X, 1, none⟩) h _).setCell (p := ⟨X, 2, none⟩) h _
theorem set3_st {w : World} {r X : Nat} {x y : Rl} {lv pv : Value} {en : Int} {l : List Tok} {ps : List Part} (hx : Bx w X x) (hr : r < X) (h : St w r lv en pv l ps) : St (set3 w X y) r lv en pv l ps := by
  obtain ⟨h1, h2, qs, hq, ho, hn⟩ := h
  have hne : ∀ {base e size n : Nat} {v : Value} {zs : List Value}, w.ownsRow base e size v n zs → e ≠ 121 → (set3 w X y).ownsRow base e size v n zs := fun hz he => own_keep hz fun k hk => set3_off y fun e2 => by
    subst e2
    obtain ⟨c1, e1⟩ := own_type hz hk
    rw [hx] at e1
    cases e1
    exact he rfl
  exact ⟨(set3_off y (by omega)).trans h1, h2.below (set3_below y (by omega)), qs, hq, hne ho (by decide), fun q hq => hne (hn q hq) (by decide)⟩

/-- In the loop over letters that come again. -/
def Lp (w0 wr : World) (r X : Nat) (x : Rl) (sm : Bool) (en : Int) (R : Except Int (List Tok × List Part)) (f : Nat) : Prop :=
  Below r w0 wr ∧ Kp w0 wr ∧ Bx wr X x ∧ ((∃ lv pv l ps, l.length ≤ f ∧ ps.length + wt l ≤ 999999999 ∧ St wr r lv en pv l ps ∧ R = againS en x sm f l ps) ∨ (f = 0 ∧ ∃ lv pv a, Bad wr r lv en pv a ∧ R = .error a))
theorem lp_once {w0 w1 w2 : World} {r X : Nat} {x : Rl} {sm : Bool} {en pl : Int} {l : List Tok} {ps : List Part} {e : Ending} (hb : Below r w0 w1) (hk : Kp w0 w1) (hx : Bx w1 X x) (h : OncePost w1 r en (onceS en x sm pl l ps) e w2) (hn : ps.length + wt l ≤ 999999999) (hc1 : 1 ≤ x.count)
    (R : Except Int (List Tok × List Part)) (f : Nat) (hf : l.length ≤ f + x.count) (hR : R = match onceS en x sm pl l ps with | .ok (l', ps') => againS en x sm f l' ps' | .error a => .error a) : ∃ g, g ≤ f ∧ Lp w0 w2 r X x sm en R g := by
  obtain ⟨_, h1, h2, h3⟩ := h
  cases hs : onceS en x sm pl l ps with
  | error a =>
    rw [hs] at h3 hR
    obtain ⟨lv, pv, h3⟩ := h3
    exact ⟨0, Nat.zero_le _, hb.trans h1, hk.trans h2, hx.kp h2, .inr ⟨rfl, lv, pv, a, h3, hR⟩⟩
  | ok q =>
    obtain ⟨l', ps'⟩ := q
    rw [hs] at h3 hR
    obtain ⟨lv, pv, h3⟩ := h3
    have := once_wt hs
    exact ⟨f, Nat.le_refl _, hb.trans h1, hk.trans h2, hx.kp h2, .inl ⟨lv, pv, l', ps', by omega, by omega, h3, hR⟩⟩
theorem again_zero {en : Int} {x : Rl} {sm : Bool} {f : Nat} {l : List Tok} {ps : List Part} (h : ¬ (0 < x.count ∧ numS l = true)) : againS en x sm f l ps = .ok (l, ps) := by
  cases f with
  | zero => rfl
  | succ f => rw [againS, if_neg h]
theorem lp_end {w0 wr : World} {r : Nat} {x : Rl} {sm : Bool} {en : Int} {R : Except Int (List Tok × List Part)} {lv pv : Value} {l : List Tok} {ps : List Part} {f : Nat} (hb : Below r w0 wr) (hk : Kp w0 wr) (hs : St wr r lv en pv l ps) (hR : R = againS en x sm f l ps)
    (h : ¬ (0 < x.count ∧ numS l = true)) : OncePost w0 r en R (.returned (.tuple #[])) wr := by
  rw [hR, again_zero h]
  exact ⟨rfl, hb, hk, lv, pv, hs⟩
theorem lp_bad {w0 wr : World} {r : Nat} {en a : Int} {R : Except Int (List Tok × List Part)} {lv pv : Value} (hb : Below r w0 wr) (hk : Kp w0 wr) (hs : Bad wr r lv en pv a) (hR : R = .error a) : OncePost w0 r en R (.returned (.tuple #[])) wr := by
  rw [hR]
  exact ⟨rfl, hb, hk, lv, pv, hs⟩
theorem lp_start {w w1 w2 : World} {r : Nat} {x : Rl} {sm : Bool} {en pl : Int} {lv pv : Value} {l : List Tok} {ps : List Part} {e : Ending} {R : Except Int (List Tok × List Part)} (hst : St w r lv en pv l ps) (hb : Bel w w1)
    (h : OncePost (w1.alloc (.cells #[.int .u8 x.name, .int .i64 x.count, .int .i64 x.kind] 121)) r en (onceS en x sm pl l ps) e w2) (hn : ps.length + wt l + 1 ≤ 999999999)
    (hR : R = match onceS en x sm pl l ps with | .ok (l', ps') => againS en x sm l'.length l' ps' | .error a => .error a) : ∃ f, Hid (Lp w w2 r w1.heap.size x sm en R f) := by
  obtain ⟨_, h1, h2, h3⟩ := h
  have hbx : Bx (w1.alloc (.cells #[.int .u8 x.name, .int .i64 x.count, .int .i64 x.kind] 121)) w1.heap.size x := heap_alloc_new _ _
  have hbb : Bel w (w1.alloc (.cells #[.int .u8 x.name, .int .i64 x.count, .int .i64 x.kind] 121)) := hb.alloc _
  have hb0 : Below r w (w1.alloc (.cells #[.int .u8 x.name, .int .i64 x.count, .int .i64 x.kind] 121)) := Below.mono hbb (by have := heap_lt hst.1; omega)
  cases hs : onceS en x sm pl l ps with
  | error a =>
    rw [hs] at h3 hR
    obtain ⟨lv, pv, h3⟩ := h3
    exact ⟨0, hb0.trans h1, Kp.trans hbb.kp h2, hbx.kp h2, .inr ⟨rfl, lv, pv, a, h3, hR⟩⟩
  | ok q =>
    obtain ⟨l', ps'⟩ := q
    rw [hs] at h3 hR
    obtain ⟨lv, pv, h3⟩ := h3
    have := once_wt hs
    exact ⟨l'.length, hb0.trans h1, Kp.trans hbb.kp h2, hbx.kp h2, .inl ⟨lv, pv, l', ps', Nat.le_refl _, by omega, h3, hR⟩⟩
theorem Rul.alloc' {w : World} (h : Rul w) (o : Obj) : Rul (w.alloc o) := Bel.rul ((Bel.refl w).alloc o) h
theorem find_L : findS 76 = (ruleL, false, true) := rfl
theorem find_76 (w : World) (hr : Rul w) : Calls Tryd.prog 103 #[.int .u8 76] w fun e w' => e = .returned (.tuple #[.agg #[.int .u8 76, .int .i64 2, .int .i64 2], .bool false, .bool true]) ∧ Bel w w' := find_any 76 w (by decide) hr
theorem OncePost.below {w w' : World} {r : Nat} {en : Int} {s : Except Int (List Tok × List Part)} {e : Ending} (h : OncePost w r en s e w') : Below r w w' := h.2.1
theorem lp_move {w w1 w2 w3 : World} {r : Nat} {sm : Bool} {en pl : Int} {lv pv : Value} {l : List Tok} {ps : List Part} {e : Ending} {R : Except Int (List Tok × List Part)} (hst : St w r lv en pv l ps) (hb : Bel w w1)
    (h : OncePost (w1.alloc (.cells #[.int .u8 77, .int .i64 2, .int .i64 1] 121)) r en (onceS en ⟨77, 2, 1⟩ sm pl l ps) e w2) (hb3 : Bel w2 w3) (hn : ps.length + wt l + 1 ≤ 999999999)
    (hR : R = match onceS en ⟨77, 2, 1⟩ sm pl l ps with | .ok (l', ps') => againS en ruleL sm l'.length l' ps' | .error a => .error a) : ∃ f, Hid (Lp w (set3 w3 w1.heap.size ruleL) r w1.heap.size ruleL sm en R f) := by
  obtain ⟨_, h1, h2, h3⟩ := h
  have hbx : Bx (w1.alloc (.cells #[.int .u8 77, .int .i64 2, .int .i64 1] 121)) w1.heap.size ⟨77, 2, 1⟩ := heap_alloc_new _ _
  have hbb : Bel w (w1.alloc (.cells #[.int .u8 77, .int .i64 2, .int .i64 1] 121)) := hb.alloc _
  have hrl := heap_lt hst.1
  have hr1 : r < w1.heap.size := Nat.lt_of_lt_of_le hrl hb.size
  have hb0 : Below r w (w1.alloc (.cells #[.int .u8 77, .int .i64 2, .int .i64 1] 121)) := Below.mono hbb (by omega)
  have hx2 := hbx.kp h2
  have hx3 : Bx w3 w1.heap.size ⟨77, 2, 1⟩ := hb3.heap hx2
  have hlt2 := heap_lt hx2
  have hbel : Below r w (set3 w3 w1.heap.size ruleL) := (hb0.trans h1).trans ((Below.mono hb3 (by omega)).trans (set3_below _ (by omega)))
  have hkp : Kp w (set3 w3 w1.heap.size ruleL) := fun k o ho a1 a2 => by
    have hk : k < w1.heap.size := Nat.lt_of_lt_of_le (heap_lt ho) hb.size
    rw [set3_off _ (by omega)]
    exact (Kp.trans (Kp.trans hbb.kp h2) hb3.kp) k o ho a1 a2
  cases hs : onceS en ⟨77, 2, 1⟩ sm pl l ps with
  | error a =>
    rw [hs] at h3 hR
    obtain ⟨lv, pv, b, h3, h4, h5⟩ := h3
    have hlt4 := heap_lt h5
    have hbne : b ≠ w1.heap.size := fun e => by
      subst e
      rw [hx2] at h5
      cases h5
    exact ⟨0, hbel, hkp, hx3.set _, .inr ⟨rfl, lv, pv, a, ⟨b, (set3_off _ (by omega)).trans (hb3.heap h3), h4, (set3_off _ hbne).trans (hb3.heap h5)⟩, hR⟩⟩
  | ok q =>
    obtain ⟨l', ps'⟩ := q
    rw [hs] at h3 hR
    obtain ⟨lv, pv, h3⟩ := h3
    have := once_wt hs
    exact ⟨l'.length, hbel, hkp, hx3.set _, .inl ⟨lv, pv, l', ps', Nat.le_refl _, by omega, set3_st hx3 hr1 (st_bel h3 hb3), hR⟩⟩
theorem rule_count {x : Rl} (h : x ∈ rulesL) (hk : x.kind ≠ 6) : 1 ≤ x.count := by
  have : ∀ x ∈ rulesL, x.kind ≠ 6 → 1 ≤ x.count := by decide
  exact this x h hk
end Go.Proofs.YtefajplbgmikdaaDoor

/-
  The walk of the reader's letter, where it goes on.
-/
namespace Go.Proofs.YtefajplbgmikdaaDoor
open Go.RowKit

set_option maxHeartbeats 4000000 in
set_option maxRecDepth 100000 in
theorem letter_other (c : Nat) (hc : c < 256) (pl en : Int)  (r : Nat) (lv pv : Value) (l : List Tok) (ini : List Part) (z : Part) (hps : ini.length + wt l ≤ 900000000) (w : World) (hr : Rul w) (hst : St w r lv en pv l (ini ++ [z])) (x : Rl) (hx : ruleOf c = some x) (hk1 : x.kind ≠ 1) (hk6 : x.kind ≠ 6)  :
    Calls Tryd.prog 80 #[.pointer (some ⟨r, 0, none⟩), .int .u8 c, .int .i64 pl, .bool false] w (OncePost w r en (letterS en c pl false l (ini ++ [z]))) := by
  have hfd := find_any c w hc hr
  unfold FindPost at hfd
  rw [find_row hx] at hfd
  obtain ⟨hs1, hs2, hs3⟩ := rule_small (rule_mem hx)
  have hct := rule_count (rule_mem hx) hk6
  have hL : letterS en c pl false l (ini ++ [z]) = match onceS en x (smallC c) pl l (ini ++ [z]) with | .ok (l', ps') => againS en x (smallC c) l'.length l' ps' | .error e => .error e := by
    unfold letterS
    rw [hx]
    simp only
    rw [if_neg (by simp [hk6]), if_neg (by simp)]
    simp only [if_neg hk1]
    rfl
  obtain ⟨R, hR⟩ : ∃ R, letterS en c pl false l (ini ++ [z]) = R := ⟨_, rfl⟩
  rw [hR] at hL ⊢
  have HL := Lib.hid hL
  have HST := Lib.hid hst
  clear hL hR hst hr
  have hil : ini.length ≤ 1000000000 := by omega
  obtain ⟨nm, ct, kn⟩ := x
  dsimp only at hs1 hs2 hs3 hk1 hk6 hct
  go_enter Tryd.func80, Tryd.ntmps80
  go_wp2_with fail
  refine hfd.mono ?_
  rintro e w1 ⟨rfl, hb1⟩
  have HB1 := Lib.hid hb1
  have HS1 := Lib.hid (st_bel HST.out hb1)
  clear hb1
  have hq2 := (st_facts HS1.out).1
  obtain ⟨g, cap, rfl, hzk⟩ := prow_some HS1.out.2.2
  have hzk2 : ∀ o, (w1.alloc o).cell? ⟨g, ini.length * 6 + 2, none⟩ = some (.int .i64 z.r.kind) := fun o => ((Bel.refl w1).alloc o).cell hzk
  clear hzk
  have hk1' : ((kn : Int) == 1) = false := by simp; omega
  have hk6' : ((kn : Int) == 6) = false := by simp; omega
  clear hk1 hk6
  unfold rlV
  have hon : ∀ V, V = w1.alloc (.cells #[.int .u8 nm, .int .i64 ct, .int .i64 kn] 121) → Calls Tryd.prog 104 #[.pointer (some ⟨r, 0, none⟩), .agg #[.int .u8 nm, .int .i64 ct, .int .i64 kn], .bool (smallC c), .int .i64 pl] V (OncePost V r en (onceS en ⟨nm, ct, kn⟩ (smallC c) pl l (ini ++ [z]))) := fun V h => by
    subst h
    exact once_any ⟨nm, ct, kn⟩ hs1 (smallC c) pl en r lv _ l (ini ++ [z]) (by simp; omega) _ (st_bel HS1.out ((Bel.refl _).alloc _))
  have HON := Lib.hid hon
  clear hon
  go_wp2_with (first
    | (go_at_call 104; (with_reducible refine (HON.out _ rfl).mono ?_); rintro e w2 hon2; have HON2 := Lib.hid hon2; (have he2 := hon2.1); subst he2; (have hx2 := (Bx.kp (w := w1.alloc (.cells #[.int .u8 nm, .int .i64 ct, .int .i64 kn] 121)) (X := w1.heap.size) (x := ⟨nm, ct, kn⟩) (heap_alloc_new _ _) hon2.2.2.1)); have HX2 := Lib.hid hx2; (obtain ⟨⟨b0, b1, b2⟩, bf⟩ := hx2.all); dsimp only at b0 b1 b2; clear hon2 hx2))
  obtain ⟨f0, HLP⟩ := lp_start (x := ⟨nm, ct, kn⟩) (sm := smallC c) (pl := pl) (R := R) HST.out HB1.out HON2.out (by simp; omega) HL.out
  go_loopg [] f0 (fun gf wx => Lp w wx r w1.heap.size ⟨nm, ct, kn⟩ (smallC c) en R gf)
  case atStart => exact HLP.out
  case round =>
    obtain ⟨hbl, hkp, hbx, hst⟩ := hrel
    have HBL := Lib.hid hbl
    have HKP := Lib.hid hkp
    have HBX := Lib.hid hbx
    obtain ⟨⟨x0, x1, x2⟩, xf⟩ := hbx.all
    dsimp only [ruleL] at x0 x1 x2
    clear hbl hkp hbx xf
    rcases hst with ⟨lv1, pv1, l1, ps1, hl1, hw1, hst1, hR1⟩ | ⟨rfl, lv1, pv1, a1, hbad1, hR1⟩
    · have HST1 := Lib.hid hst1
      have HR1 := Lib.hid hR1
      obtain ⟨⟨r0, r1, r2, r3⟩, _⟩ := hst1.1.all
      have hnum := number_yes r lv1 pv1 (.pointer none) en l1 r wr hst1.1 hst1.2.1
      have hpla := place_any r lv1 pv1 (.pointer none) en l1 r wr hst1.1 hst1.2.1
      clear hst1 hR1
      cases hn : numS l1 with
      | false =>
        have HEND := Lib.hid (lp_end HBL.out HKP.out HST1.out HR1.out (by simp [hn]))
        rw [hn] at hnum
        go_wp2_with (first
          | (go_at_call 105; (with_reducible refine hnum.mono ?_); rintro e w9 ⟨rfl, rfl⟩))
        exact bodyPost_end (v := .tuple #[]) (by simp [results, Tryd.results80, go_sem]) rfl HEND.out
      | true =>
        rw [hn] at hnum
        obtain ⟨g', rfl⟩ : ∃ g', gk = g' + 1 := by
          cases l1 with
          | nil => simp [numS] at hn
          | cons t l2 => exact ⟨gk - 1, by simp at hl1; omega⟩
        have honce := fun (W : World) (h : W = wr.drew) => once_any ⟨nm, ct, kn⟩ hs1 (smallC c) (placeS en l1) en r lv1 pv1 l1 ps1 (by omega) W (by rw [h]; exact st_bel HST1.out (Bel.refl _).drew)
        have hone : Calls Tryd.prog 104 #[.pointer (some ⟨r, 0, none⟩), .agg #[.int .u8 nm, .int .i64 ct, .int .i64 kn], .bool (smallC c), .int .i64 (placeS en l1)] wr.drew (OncePost wr.drew r en (onceS en ⟨nm, ct, kn⟩ (smallC c) (placeS en l1) l1 ps1)) := honce _ rfl
        have hpla' : Calls Tryd.prog 106 #[.pointer (some ⟨r, 0, none⟩)] wr.drew fun e w' => e = .returned (.int .i64 (placeS en l1)) ∧ wr.drew = w' := place_any r lv1 pv1 (.pointer none) en l1 r wr.drew (st_bel HST1.out (Bel.refl _).drew).1 (st_bel HST1.out (Bel.refl _).drew).2.1
        clear honce hpla
        go_wp2_with (first
          | (go_at_call 105; (with_reducible refine hnum.mono ?_); rintro e w9 ⟨rfl, rfl⟩))
        go_region_law (first
          | (go_simp; go_at_call 106; (with_reducible refine hpla'.mono ?_); rintro e w9 ⟨rfl, rfl⟩)
          | (go_simp; go_at_call 104; (with_reducible refine hone.mono ?_); rintro e w9 ho9; (have he9 := ho9.1); subst he9))
        all_goals
          obtain ⟨gg, hgg, HLP9⟩ := lp_once (w1 := wr.drew) (HBL.out.drew) (Kp.trans HKP.out (Bel.kp (Bel.refl _).drew)) (HBX.out.kp (Bel.kp (Bel.refl _).drew)) ho9 hw1 hct R g' (by dsimp only [ruleL]; omega) (by rw [HR1.out, againS, if_pos (show 0 < (⟨nm, ct, kn⟩ : Rl).count ∧ numS l1 = true from ⟨hct, hn⟩)]; rfl)
          have HLP9 := Lib.hid HLP9
          clear ho9
          go_wp2
          go_roundg gg
          case measure => omega
          case rel => exact HLP9.out
    · have HR1 := Lib.hid hR1
      have HBD := Lib.hid hbad1
      obtain ⟨b9, hrd9, _, _⟩ := hbad1
      obtain ⟨⟨r0, r1, r2, r3⟩, _⟩ := hrd9.all
      clear hrd9 hR1
      go_wp2
      exact bodyPost_end (v := .tuple #[]) (by simp [results, Tryd.results80, go_sem]) rfl (lp_bad HBL.out HKP.out HBD.out HR1.out)

set_option maxHeartbeats 4000000 in
set_option maxRecDepth 100000 in
theorem letter_other_more (c : Nat) (hc : c < 256) (pl en : Int) (hp1 : -4611686018427387904 ≤ pl) (hp2 : pl ≤ 4611686018427387904) (r : Nat) (lv pv : Value) (l : List Tok) (ini : List Part) (z : Part) (hps : ini.length + wt l ≤ 900000000) (w : World) (hr : Rul w) (hst : St w r lv en pv l (ini ++ [z])) (x : Rl) (hx : ruleOf c = some x) (hk1 : x.kind ≠ 1) (hk6 : x.kind ≠ 6)  :
    Calls Tryd.prog 80 #[.pointer (some ⟨r, 0, none⟩), .int .u8 c, .int .i64 pl, .bool true] w (OncePost w r en (letterS en c pl true l (ini ++ [z]))) := by
  have hfd := find_any c w hc hr
  unfold FindPost at hfd
  rw [find_row hx] at hfd
  obtain ⟨hs1, hs2, hs3⟩ := rule_small (rule_mem hx)
  have hct := rule_count (rule_mem hx) hk6
  have hL : letterS en c pl true l (ini ++ [z]) = .error (pl + 1) := by
    unfold letterS
    rw [hx]
    simp only
    rw [if_neg (by simp [hk6]), if_pos ⟨by trivial, hct⟩]
  rw [hL]
  have HST := Lib.hid hst
  clear hL hst hr
  have hil : ini.length ≤ 1000000000 := by omega
  obtain ⟨nm, ct, kn⟩ := x
  dsimp only at hs1 hs2 hs3 hk1 hk6 hct
  go_enter Tryd.func80, Tryd.ntmps80
  go_wp2_with fail
  refine hfd.mono ?_
  rintro e w1 ⟨rfl, hb1⟩
  have HB1 := Lib.hid hb1
  have HS1 := Lib.hid (st_bel HST.out hb1)
  clear hb1
  have hq2 := (st_facts HS1.out).1
  obtain ⟨g, cap, rfl, hzk⟩ := prow_some HS1.out.2.2
  have hzk2 : ∀ o, (w1.alloc o).cell? ⟨g, ini.length * 6 + 2, none⟩ = some (.int .i64 z.r.kind) := fun o => ((Bel.refl w1).alloc o).cell hzk
  clear hzk
  have hk1' : ((kn : Int) == 1) = false := by simp; omega
  have hk6' : ((kn : Int) == 6) = false := by simp; omega
  clear hk1 hk6
  unfold rlV
  go_wp2_with (first
    | (go_at_call 79; (with_reducible refine (fail_any r lv _ (.pointer none) en _ _ (st_bel HS1.out ((Bel.refl _).alloc _)).rd).mono ?_); rintro e w2 ⟨rfl, hb2, hk2, hbad⟩; have HX := Lib.hid (bad_post HST.out (Bel.trans HB1.out ((Bel.refl _).alloc _)) hb2 hk2 hbad); clear hb2 hk2 hbad))
  exact bodyPost_ret (v := .tuple #[]) (by simp [results, Tryd.results80, go_sem]) rfl HX.out

end Go.Proofs.YtefajplbgmikdaaDoor

/-
  The walk of the reader's letter, where it goes on.
-/
namespace Go.Proofs.YtefajplbgmikdaaDoor
open Go.RowKit

set_option maxHeartbeats 4000000 in
set_option maxRecDepth 100000 in
theorem letter_move0_more (c : Nat) (hc : c < 256) (pl en : Int) (hp1 : -4611686018427387904 ≤ pl) (hp2 : pl ≤ 4611686018427387904) (r : Nat) (lv pv : Value) (l : List Tok) (_ : wt l ≤ 900000000) (w : World) (hr : Rul w) (hst : St w r lv en pv l []) (hx : ruleOf c = some ⟨77, 2, 1⟩)  :
    Calls Tryd.prog 80 #[.pointer (some ⟨r, 0, none⟩), .int .u8 c, .int .i64 pl, .bool true] w (OncePost w r en (letterS en c pl true l [])) := by
  have hfd := find_any c w hc hr
  unfold FindPost at hfd
  rw [find_row hx] at hfd
  have hL : letterS en c pl true l [] = .error (pl + 1) := by
    unfold letterS
    rw [hx]
    simp only
    rw [if_neg (by simp), if_pos ⟨by trivial, (by decide)⟩]
  rw [hL]
  have HST := Lib.hid hst
  clear hL hst hr
  go_enter Tryd.func80, Tryd.ntmps80
  go_wp2_with fail
  refine hfd.mono ?_
  rintro e w1 ⟨rfl, hb1⟩
  have HB1 := Lib.hid hb1
  have HS1 := Lib.hid (st_bel HST.out hb1)
  clear hb1
  obtain ⟨q2, pp, pc, rfl⟩ := st_facts HS1.out
  unfold rlV
  go_wp2_with (first
    | (go_at_call 79; (with_reducible refine (fail_any r lv _ (.pointer none) en _ _ (st_bel HS1.out ((Bel.refl _).alloc _)).rd).mono ?_); rintro e w2 ⟨rfl, hb2, hk2, hbad⟩; have HX := Lib.hid (bad_post HST.out (Bel.trans HB1.out ((Bel.refl _).alloc _)) hb2 hk2 hbad); clear hb2 hk2 hbad))
  exact bodyPost_ret (v := .tuple #[]) (by simp [results, Tryd.results80, go_sem]) rfl HX.out

set_option maxHeartbeats 4000000 in
set_option maxRecDepth 100000 in
theorem letter_move_more (c : Nat) (hc : c < 256) (pl en : Int) (hp1 : -4611686018427387904 ≤ pl) (hp2 : pl ≤ 4611686018427387904) (r : Nat) (lv pv : Value) (l : List Tok) (ini : List Part) (z : Part) (hps : ini.length + wt l ≤ 900000000) (w : World) (hr : Rul w) (hst : St w r lv en pv l (ini ++ [z])) (hx : ruleOf c = some ⟨77, 2, 1⟩)  :
    Calls Tryd.prog 80 #[.pointer (some ⟨r, 0, none⟩), .int .u8 c, .int .i64 pl, .bool true] w (OncePost w r en (letterS en c pl true l (ini ++ [z]))) := by
  have hfd := find_any c w hc hr
  unfold FindPost at hfd
  rw [find_row hx] at hfd
  have hL : letterS en c pl true l (ini ++ [z]) = .error (pl + 1) := by
    unfold letterS
    rw [hx]
    simp only
    rw [if_neg (by simp), if_pos ⟨by trivial, (by decide)⟩]
  rw [hL]
  have HST := Lib.hid hst
  clear hL hst hr
  have hil : ini.length ≤ 1000000000 := by omega
  go_enter Tryd.func80, Tryd.ntmps80
  go_wp2_with fail
  refine hfd.mono ?_
  rintro e w1 ⟨rfl, hb1⟩
  have HB1 := Lib.hid hb1
  have HS1 := Lib.hid (st_bel HST.out hb1)
  clear hb1
  have hq2 := (st_facts HS1.out).1
  obtain ⟨g, cap, rfl, hzk⟩ := prow_some HS1.out.2.2
  have hzk2 : ∀ o, (w1.alloc o).cell? ⟨g, ini.length * 6 + 2, none⟩ = some (.int .i64 z.r.kind) := fun o => ((Bel.refl w1).alloc o).cell hzk
  clear hzk
  unfold rlV
  go_wp2_with (first
    | (go_at_call 79; (with_reducible refine (fail_any r lv _ (.pointer none) en _ _ (st_bel HS1.out ((Bel.refl _).alloc _)).rd).mono ?_); rintro e w2 ⟨rfl, hb2, hk2, hbad⟩; have HX := Lib.hid (bad_post HST.out (Bel.trans HB1.out ((Bel.refl _).alloc _)) hb2 hk2 hbad); clear hb2 hk2 hbad))
  exact bodyPost_ret (v := .tuple #[]) (by simp [results, Tryd.results80, go_sem]) rfl HX.out

set_option maxHeartbeats 4000000 in
set_option maxRecDepth 100000 in
theorem letter_close (c : Nat) (hc : c < 256) (pl en : Int)  (r : Nat) (lv pv : Value) (l : List Tok) (ini : List Part) (z : Part) (hps : ini.length + wt l ≤ 900000000) (w : World) (hr : Rul w) (hst : St w r lv en pv l (ini ++ [z])) (hx : ruleOf c = some ⟨90, 0, 6⟩) (hz6 : z.r.kind ≠ 6)  :
    Calls Tryd.prog 80 #[.pointer (some ⟨r, 0, none⟩), .int .u8 c, .int .i64 pl, .bool false] w (OncePost w r en (letterS en c pl false l (ini ++ [z]))) := by
  have hfd := find_any c w hc hr
  unfold FindPost at hfd
  rw [find_row hx] at hfd
  have hL : letterS en c pl false l (ini ++ [z]) = match onceS en (⟨90, 0, 6⟩ : Rl) (smallC c) pl l (ini ++ [z]) with | .ok (l', ps') => againS en (⟨90, 0, 6⟩ : Rl) (smallC c) l'.length l' ps' | .error e => .error e := by
    unfold letterS
    rw [hx]
    simp only
    rw [if_neg (by simp [lastKind, hz6]), if_neg (by simp)]
    rfl
  obtain ⟨R, hR⟩ : ∃ R, letterS en c pl false l (ini ++ [z]) = R := ⟨_, rfl⟩
  rw [hR] at hL ⊢
  have HL := Lib.hid hL
  have HST := Lib.hid hst
  clear hL hR hst hr
  have hil : ini.length ≤ 1000000000 := by omega
  go_enter Tryd.func80, Tryd.ntmps80
  go_wp2_with fail
  refine hfd.mono ?_
  rintro e w1 ⟨rfl, hb1⟩
  have HB1 := Lib.hid hb1
  have HS1 := Lib.hid (st_bel HST.out hb1)
  clear hb1
  have hq2 := (st_facts HS1.out).1
  obtain ⟨g, cap, rfl, hzk⟩ := prow_some HS1.out.2.2
  have hzk2 : ∀ o, (w1.alloc o).cell? ⟨g, ini.length * 6 + 2, none⟩ = some (.int .i64 z.r.kind) := fun o => ((Bel.refl w1).alloc o).cell hzk
  clear hzk
  have hz6' : ((z.r.kind : Int) == 6) = false := by simp; omega
  clear hz6
  unfold rlV
  have hon : ∀ V, V = w1.alloc (.cells #[.int .u8 90, .int .i64 0, .int .i64 6] 121) → Calls Tryd.prog 104 #[.pointer (some ⟨r, 0, none⟩), .agg #[.int .u8 90, .int .i64 0, .int .i64 6], .bool (smallC c), .int .i64 pl] V (OncePost V r en (onceS en ⟨90, 0, 6⟩ (smallC c) pl l (ini ++ [z]))) := fun V h => by
    subst h
    exact once_any ⟨90, 0, 6⟩ (by decide) (smallC c) pl en r lv _ l (ini ++ [z]) (by simp; omega) _ (st_bel HS1.out ((Bel.refl _).alloc _))
  have HON := Lib.hid hon
  clear hon
  go_wp2_with (first
    | (go_at_call 104; (with_reducible refine (HON.out _ rfl).mono ?_); rintro e w2 hon2; have HON2 := Lib.hid hon2; (have he2 := hon2.1); subst he2; (have hx2 := (Bx.kp (w := w1.alloc (.cells #[.int .u8 90, .int .i64 0, .int .i64 6] 121)) (X := w1.heap.size) (x := ⟨90, 0, 6⟩) (heap_alloc_new _ _) hon2.2.2.1)); have HX2 := Lib.hid hx2; (obtain ⟨⟨b0, b1, b2⟩, bf⟩ := hx2.all); dsimp only at b0 b1 b2; clear hon2 hx2))
  obtain ⟨f0, HLP⟩ := lp_start (x := ⟨90, 0, 6⟩) (sm := smallC c) (pl := pl) (R := R) HST.out HB1.out HON2.out (by simp; omega) HL.out
  go_loopg [] f0 (fun gf wx => Lp w wx r w1.heap.size ⟨90, 0, 6⟩ (smallC c) en R gf)
  case atStart => exact HLP.out
  case round =>
    obtain ⟨hbl, hkp, hbx, hst⟩ := hrel
    have HBL := Lib.hid hbl
    have HKP := Lib.hid hkp
    obtain ⟨⟨x0, x1, x2⟩, xf⟩ := hbx.all
    dsimp only at x0 x1 x2
    clear hbl hkp hbx xf
    have HFIN : Hid (OncePost w r en R (.returned (.tuple #[])) wr) := by
      rcases hst with ⟨lv1, pv1, l1, ps1, hl1, hw1, hst1, hR1⟩ | ⟨rfl, lv1, pv1, a1, hbad1, hR1⟩
      · exact lp_end HBL.out HKP.out hst1 hR1 (by simp)
      · exact lp_bad HBL.out HKP.out hbad1 hR1
    clear hst
    go_wp2
    exact bodyPost_end (v := .tuple #[]) (by simp [results, Tryd.results80, go_sem]) rfl HFIN.out

set_option maxHeartbeats 4000000 in
set_option maxRecDepth 100000 in
theorem letter_close_more (c : Nat) (hc : c < 256) (pl en : Int)  (r : Nat) (lv pv : Value) (l : List Tok) (ini : List Part) (z : Part) (hps : ini.length + wt l ≤ 900000000) (w : World) (hr : Rul w) (hst : St w r lv en pv l (ini ++ [z])) (hx : ruleOf c = some ⟨90, 0, 6⟩) (hz6 : z.r.kind ≠ 6)  :
    Calls Tryd.prog 80 #[.pointer (some ⟨r, 0, none⟩), .int .u8 c, .int .i64 pl, .bool true] w (OncePost w r en (letterS en c pl true l (ini ++ [z]))) := by
  have hfd := find_any c w hc hr
  unfold FindPost at hfd
  rw [find_row hx] at hfd
  have hL : letterS en c pl true l (ini ++ [z]) = match onceS en (⟨90, 0, 6⟩ : Rl) (smallC c) pl l (ini ++ [z]) with | .ok (l', ps') => againS en (⟨90, 0, 6⟩ : Rl) (smallC c) l'.length l' ps' | .error e => .error e := by
    unfold letterS
    rw [hx]
    simp only
    rw [if_neg (by simp [lastKind, hz6]), if_neg (by simp)]
    rfl
  obtain ⟨R, hR⟩ : ∃ R, letterS en c pl true l (ini ++ [z]) = R := ⟨_, rfl⟩
  rw [hR] at hL ⊢
  have HL := Lib.hid hL
  have HST := Lib.hid hst
  clear hL hR hst hr
  have hil : ini.length ≤ 1000000000 := by omega
  go_enter Tryd.func80, Tryd.ntmps80
  go_wp2_with fail
  refine hfd.mono ?_
  rintro e w1 ⟨rfl, hb1⟩
  have HB1 := Lib.hid hb1
  have HS1 := Lib.hid (st_bel HST.out hb1)
  clear hb1
  have hq2 := (st_facts HS1.out).1
  obtain ⟨g, cap, rfl, hzk⟩ := prow_some HS1.out.2.2
  have hzk2 : ∀ o, (w1.alloc o).cell? ⟨g, ini.length * 6 + 2, none⟩ = some (.int .i64 z.r.kind) := fun o => ((Bel.refl w1).alloc o).cell hzk
  clear hzk
  have hz6' : ((z.r.kind : Int) == 6) = false := by simp; omega
  clear hz6
  unfold rlV
  have hon : ∀ V, V = w1.alloc (.cells #[.int .u8 90, .int .i64 0, .int .i64 6] 121) → Calls Tryd.prog 104 #[.pointer (some ⟨r, 0, none⟩), .agg #[.int .u8 90, .int .i64 0, .int .i64 6], .bool (smallC c), .int .i64 pl] V (OncePost V r en (onceS en ⟨90, 0, 6⟩ (smallC c) pl l (ini ++ [z]))) := fun V h => by
    subst h
    exact once_any ⟨90, 0, 6⟩ (by decide) (smallC c) pl en r lv _ l (ini ++ [z]) (by simp; omega) _ (st_bel HS1.out ((Bel.refl _).alloc _))
  have HON := Lib.hid hon
  clear hon
  go_wp2_with (first
    | (go_at_call 104; (with_reducible refine (HON.out _ rfl).mono ?_); rintro e w2 hon2; have HON2 := Lib.hid hon2; (have he2 := hon2.1); subst he2; (have hx2 := (Bx.kp (w := w1.alloc (.cells #[.int .u8 90, .int .i64 0, .int .i64 6] 121)) (X := w1.heap.size) (x := ⟨90, 0, 6⟩) (heap_alloc_new _ _) hon2.2.2.1)); have HX2 := Lib.hid hx2; (obtain ⟨⟨b0, b1, b2⟩, bf⟩ := hx2.all); dsimp only at b0 b1 b2; clear hon2 hx2))
  obtain ⟨f0, HLP⟩ := lp_start (x := ⟨90, 0, 6⟩) (sm := smallC c) (pl := pl) (R := R) HST.out HB1.out HON2.out (by simp; omega) HL.out
  go_loopg [] f0 (fun gf wx => Lp w wx r w1.heap.size ⟨90, 0, 6⟩ (smallC c) en R gf)
  case atStart => exact HLP.out
  case round =>
    obtain ⟨hbl, hkp, hbx, hst⟩ := hrel
    have HBL := Lib.hid hbl
    have HKP := Lib.hid hkp
    obtain ⟨⟨x0, x1, x2⟩, xf⟩ := hbx.all
    dsimp only at x0 x1 x2
    clear hbl hkp hbx xf
    have HFIN : Hid (OncePost w r en R (.returned (.tuple #[])) wr) := by
      rcases hst with ⟨lv1, pv1, l1, ps1, hl1, hw1, hst1, hR1⟩ | ⟨rfl, lv1, pv1, a1, hbad1, hR1⟩
      · exact lp_end HBL.out HKP.out hst1 hR1 (by simp)
      · exact lp_bad HBL.out HKP.out hbad1 hR1
    clear hst
    go_wp2
    exact bodyPost_end (v := .tuple #[]) (by simp [results, Tryd.results80, go_sem]) rfl HFIN.out

end Go.Proofs.YtefajplbgmikdaaDoor

/-
  The walk of the reader's letter, where it goes on.
-/
namespace Go.Proofs.YtefajplbgmikdaaDoor
open Go.RowKit

set_option maxHeartbeats 4000000 in
set_option maxRecDepth 100000 in
theorem letter_move0 (c : Nat) (hc : c < 256) (pl en : Int)  (r : Nat) (lv pv : Value) (l : List Tok) (hps : wt l ≤ 900000000) (w : World) (hr : Rul w) (hst : St w r lv en pv l []) (hx : ruleOf c = some ⟨77, 2, 1⟩) (hg : 2 < r) :
    Calls Tryd.prog 80 #[.pointer (some ⟨r, 0, none⟩), .int .u8 c, .int .i64 pl, .bool false] w (OncePost w r en (letterS en c pl false l [])) := by
  have hfd := find_any c w hc hr
  unfold FindPost at hfd
  rw [find_row hx] at hfd
  have hL : letterS en c pl false l [] = match onceS en (⟨77, 2, 1⟩ : Rl) (smallC c) pl l [] with | .ok (l', ps') => againS en ruleL (smallC c) l'.length l' ps' | .error e => .error e := by
    unfold letterS
    rw [hx]
    simp only
    rw [if_neg (by simp), if_neg (by simp)]
    rfl
  obtain ⟨R, hR⟩ : ∃ R, letterS en c pl false l [] = R := ⟨_, rfl⟩
  rw [hR] at hL ⊢
  have HL := Lib.hid hL
  have HST := Lib.hid hst
  have HRUL := Lib.hid hr
  clear hL hR hst hr
  go_enter Tryd.func80, Tryd.ntmps80
  go_wp2_with fail
  refine hfd.mono ?_
  rintro e w1 ⟨rfl, hb1⟩
  have HB1 := Lib.hid hb1
  have HS1 := Lib.hid (st_bel HST.out hb1)
  clear hb1
  obtain ⟨q2, pp, pc, rfl⟩ := st_facts HS1.out
  unfold rlV
  have hon : ∀ V, V = w1.alloc (.cells #[.int .u8 77, .int .i64 2, .int .i64 1] 121) → Calls Tryd.prog 104 #[.pointer (some ⟨r, 0, none⟩), .agg #[.int .u8 77, .int .i64 2, .int .i64 1], .bool (smallC c), .int .i64 pl] V (OncePost V r en (onceS en ⟨77, 2, 1⟩ (smallC c) pl l [])) := fun V h => by
    subst h
    exact once_any ⟨77, 2, 1⟩ (by decide) (smallC c) pl en r lv _ l [] (by simp) _ (st_bel HS1.out ((Bel.refl _).alloc _))
  have HON := Lib.hid hon
  clear hon
  have HRW : Hid (∀ V, Below r (w1.alloc (.cells #[.int .u8 77, .int .i64 2, .int .i64 1] 121)) V → Rul V) := fun V h => ((HRUL.out.below (Below.mono HB1.out (Nat.le_of_lt (heap_lt HST.out.1))) hg).alloc' _).below h hg
  go_wp2_with (first
    | (go_at_call 104; (with_reducible refine (HON.out _ rfl).mono ?_); rintro e w2 hon2; have HON2 := Lib.hid hon2; (have he2 := hon2.1); subst he2; (have hx2 := (Bx.kp (w := w1.alloc (.cells #[.int .u8 77, .int .i64 2, .int .i64 1] 121)) (X := w1.heap.size) (x := ⟨77, 2, 1⟩) (heap_alloc_new _ _) hon2.2.2.1)); have HX2 := Lib.hid hx2; (obtain ⟨⟨b0, b1, b2⟩, bf⟩ := hx2.all); dsimp only at b0 b1 b2; clear hon2 hx2)
    | (go_at_call 103; (with_reducible refine (find_76 _ (HRW.out _ (OncePost.below HON2.out))).mono ?_); rintro e w3 ⟨rfl, hb3⟩; have HB3 := Lib.hid hb3; (have hx3 : Bx w3 w1.heap.size ⟨77, 2, 1⟩ := hb3.heap HX2.out); (obtain ⟨⟨d0, d1, d2⟩, df⟩ := hx3.all); dsimp only at d0 d1 d2; clear hb3 hx3))
  obtain ⟨f0, HLP⟩ := lp_move (sm := smallC c) (pl := pl) (R := R) HST.out HB1.out HON2.out HB3.out (by simp; omega) HL.out
  go_loopg [] f0 (fun gf wx => Lp w wx r w1.heap.size ruleL (smallC c) en R gf)
  case atStart => exact HLP.out
  case round =>
    obtain ⟨hbl, hkp, hbx, hst⟩ := hrel
    have HBL := Lib.hid hbl
    have HKP := Lib.hid hkp
    have HBX := Lib.hid hbx
    obtain ⟨⟨x0, x1, x2⟩, xf⟩ := hbx.all
    dsimp only [ruleL] at x0 x1 x2
    clear hbl hkp hbx xf
    rcases hst with ⟨lv1, pv1, l1, ps1, hl1, hw1, hst1, hR1⟩ | ⟨rfl, lv1, pv1, a1, hbad1, hR1⟩
    · have HST1 := Lib.hid hst1
      have HR1 := Lib.hid hR1
      obtain ⟨⟨r0, r1, r2, r3⟩, _⟩ := hst1.1.all
      have hnum := number_yes r lv1 pv1 (.pointer none) en l1 r wr hst1.1 hst1.2.1
      have hpla := place_any r lv1 pv1 (.pointer none) en l1 r wr hst1.1 hst1.2.1
      clear hst1 hR1
      cases hn : numS l1 with
      | false =>
        have HEND := Lib.hid (lp_end HBL.out HKP.out HST1.out HR1.out (by simp [hn]))
        rw [hn] at hnum
        go_wp2_with (first
          | (go_at_call 105; (with_reducible refine hnum.mono ?_); rintro e w9 ⟨rfl, rfl⟩))
        exact bodyPost_end (v := .tuple #[]) (by simp [results, Tryd.results80, go_sem]) rfl HEND.out
      | true =>
        rw [hn] at hnum
        obtain ⟨g', rfl⟩ : ∃ g', gk = g' + 1 := by
          cases l1 with
          | nil => simp [numS] at hn
          | cons t l2 => exact ⟨gk - 1, by simp at hl1; omega⟩
        have honce := fun (W : World) (h : W = wr.drew) => once_any ruleL (by decide) (smallC c) (placeS en l1) en r lv1 pv1 l1 ps1 (by omega) W (by rw [h]; exact st_bel HST1.out (Bel.refl _).drew)
        have hone : Calls Tryd.prog 104 #[.pointer (some ⟨r, 0, none⟩), .agg #[.int .u8 76, .int .i64 2, .int .i64 2], .bool (smallC c), .int .i64 (placeS en l1)] wr.drew (OncePost wr.drew r en (onceS en ruleL (smallC c) (placeS en l1) l1 ps1)) := honce _ rfl
        have hpla' : Calls Tryd.prog 106 #[.pointer (some ⟨r, 0, none⟩)] wr.drew fun e w' => e = .returned (.int .i64 (placeS en l1)) ∧ wr.drew = w' := place_any r lv1 pv1 (.pointer none) en l1 r wr.drew (st_bel HST1.out (Bel.refl _).drew).1 (st_bel HST1.out (Bel.refl _).drew).2.1
        clear honce hpla
        go_wp2_with (first
          | (go_at_call 105; (with_reducible refine hnum.mono ?_); rintro e w9 ⟨rfl, rfl⟩))
        go_region_law (first
          | (go_simp; go_at_call 106; (with_reducible refine hpla'.mono ?_); rintro e w9 ⟨rfl, rfl⟩)
          | (go_simp; go_at_call 104; (with_reducible refine hone.mono ?_); rintro e w9 ho9; (have he9 := ho9.1); subst he9))
        all_goals
          obtain ⟨gg, hgg, HLP9⟩ := lp_once (w1 := wr.drew) (HBL.out.drew) (Kp.trans HKP.out (Bel.kp (Bel.refl _).drew)) (HBX.out.kp (Bel.kp (Bel.refl _).drew)) ho9 hw1 (by decide) R g' (by dsimp only [ruleL]; omega) (by rw [HR1.out, againS, if_pos (show 0 < (ruleL : Rl).count ∧ numS l1 = true from ⟨(by decide), hn⟩)]; rfl)
          have HLP9 := Lib.hid HLP9
          clear ho9
          go_wp2
          go_roundg gg
          case measure => omega
          case rel => exact HLP9.out
    · have HR1 := Lib.hid hR1
      have HBD := Lib.hid hbad1
      obtain ⟨b9, hrd9, _, _⟩ := hbad1
      obtain ⟨⟨r0, r1, r2, r3⟩, _⟩ := hrd9.all
      clear hrd9 hR1
      go_wp2
      exact bodyPost_end (v := .tuple #[]) (by simp [results, Tryd.results80, go_sem]) rfl (lp_bad HBL.out HKP.out HBD.out HR1.out)

set_option maxHeartbeats 4000000 in
set_option maxRecDepth 100000 in
theorem letter_move (c : Nat) (hc : c < 256) (pl en : Int)  (r : Nat) (lv pv : Value) (l : List Tok) (ini : List Part) (z : Part) (hps : ini.length + wt l ≤ 900000000) (w : World) (hr : Rul w) (hst : St w r lv en pv l (ini ++ [z])) (hx : ruleOf c = some ⟨77, 2, 1⟩) (hg : 2 < r) :
    Calls Tryd.prog 80 #[.pointer (some ⟨r, 0, none⟩), .int .u8 c, .int .i64 pl, .bool false] w (OncePost w r en (letterS en c pl false l (ini ++ [z]))) := by
  have hfd := find_any c w hc hr
  unfold FindPost at hfd
  rw [find_row hx] at hfd
  have hL : letterS en c pl false l (ini ++ [z]) = match onceS en (⟨77, 2, 1⟩ : Rl) (smallC c) pl l (ini ++ [z]) with | .ok (l', ps') => againS en ruleL (smallC c) l'.length l' ps' | .error e => .error e := by
    unfold letterS
    rw [hx]
    simp only
    rw [if_neg (by simp), if_neg (by simp)]
    rfl
  obtain ⟨R, hR⟩ : ∃ R, letterS en c pl false l (ini ++ [z]) = R := ⟨_, rfl⟩
  rw [hR] at hL ⊢
  have HL := Lib.hid hL
  have HST := Lib.hid hst
  have HRUL := Lib.hid hr
  clear hL hR hst hr
  have hil : ini.length ≤ 1000000000 := by omega
  go_enter Tryd.func80, Tryd.ntmps80
  go_wp2_with fail
  refine hfd.mono ?_
  rintro e w1 ⟨rfl, hb1⟩
  have HB1 := Lib.hid hb1
  have HS1 := Lib.hid (st_bel HST.out hb1)
  clear hb1
  have hq2 := (st_facts HS1.out).1
  obtain ⟨g, cap, rfl, hzk⟩ := prow_some HS1.out.2.2
  have hzk2 : ∀ o, (w1.alloc o).cell? ⟨g, ini.length * 6 + 2, none⟩ = some (.int .i64 z.r.kind) := fun o => ((Bel.refl w1).alloc o).cell hzk
  clear hzk
  unfold rlV
  have hon : ∀ V, V = w1.alloc (.cells #[.int .u8 77, .int .i64 2, .int .i64 1] 121) → Calls Tryd.prog 104 #[.pointer (some ⟨r, 0, none⟩), .agg #[.int .u8 77, .int .i64 2, .int .i64 1], .bool (smallC c), .int .i64 pl] V (OncePost V r en (onceS en ⟨77, 2, 1⟩ (smallC c) pl l (ini ++ [z]))) := fun V h => by
    subst h
    exact once_any ⟨77, 2, 1⟩ (by decide) (smallC c) pl en r lv _ l (ini ++ [z]) (by simp; omega) _ (st_bel HS1.out ((Bel.refl _).alloc _))
  have HON := Lib.hid hon
  clear hon
  have HRW : Hid (∀ V, Below r (w1.alloc (.cells #[.int .u8 77, .int .i64 2, .int .i64 1] 121)) V → Rul V) := fun V h => ((HRUL.out.below (Below.mono HB1.out (Nat.le_of_lt (heap_lt HST.out.1))) hg).alloc' _).below h hg
  go_wp2_with (first
    | (go_at_call 104; (with_reducible refine (HON.out _ rfl).mono ?_); rintro e w2 hon2; have HON2 := Lib.hid hon2; (have he2 := hon2.1); subst he2; (have hx2 := (Bx.kp (w := w1.alloc (.cells #[.int .u8 77, .int .i64 2, .int .i64 1] 121)) (X := w1.heap.size) (x := ⟨77, 2, 1⟩) (heap_alloc_new _ _) hon2.2.2.1)); have HX2 := Lib.hid hx2; (obtain ⟨⟨b0, b1, b2⟩, bf⟩ := hx2.all); dsimp only at b0 b1 b2; clear hon2 hx2)
    | (go_at_call 103; (with_reducible refine (find_76 _ (HRW.out _ (OncePost.below HON2.out))).mono ?_); rintro e w3 ⟨rfl, hb3⟩; have HB3 := Lib.hid hb3; (have hx3 : Bx w3 w1.heap.size ⟨77, 2, 1⟩ := hb3.heap HX2.out); (obtain ⟨⟨d0, d1, d2⟩, df⟩ := hx3.all); dsimp only at d0 d1 d2; clear hb3 hx3))
  obtain ⟨f0, HLP⟩ := lp_move (sm := smallC c) (pl := pl) (R := R) HST.out HB1.out HON2.out HB3.out (by simp; omega) HL.out
  go_loopg [] f0 (fun gf wx => Lp w wx r w1.heap.size ruleL (smallC c) en R gf)
  case atStart => exact HLP.out
  case round =>
    obtain ⟨hbl, hkp, hbx, hst⟩ := hrel
    have HBL := Lib.hid hbl
    have HKP := Lib.hid hkp
    have HBX := Lib.hid hbx
    obtain ⟨⟨x0, x1, x2⟩, xf⟩ := hbx.all
    dsimp only [ruleL] at x0 x1 x2
    clear hbl hkp hbx xf
    rcases hst with ⟨lv1, pv1, l1, ps1, hl1, hw1, hst1, hR1⟩ | ⟨rfl, lv1, pv1, a1, hbad1, hR1⟩
    · have HST1 := Lib.hid hst1
      have HR1 := Lib.hid hR1
      obtain ⟨⟨r0, r1, r2, r3⟩, _⟩ := hst1.1.all
      have hnum := number_yes r lv1 pv1 (.pointer none) en l1 r wr hst1.1 hst1.2.1
      have hpla := place_any r lv1 pv1 (.pointer none) en l1 r wr hst1.1 hst1.2.1
      clear hst1 hR1
      cases hn : numS l1 with
      | false =>
        have HEND := Lib.hid (lp_end HBL.out HKP.out HST1.out HR1.out (by simp [hn]))
        rw [hn] at hnum
        go_wp2_with (first
          | (go_at_call 105; (with_reducible refine hnum.mono ?_); rintro e w9 ⟨rfl, rfl⟩))
        exact bodyPost_end (v := .tuple #[]) (by simp [results, Tryd.results80, go_sem]) rfl HEND.out
      | true =>
        rw [hn] at hnum
        obtain ⟨g', rfl⟩ : ∃ g', gk = g' + 1 := by
          cases l1 with
          | nil => simp [numS] at hn
          | cons t l2 => exact ⟨gk - 1, by simp at hl1; omega⟩
        have honce := fun (W : World) (h : W = wr.drew) => once_any ruleL (by decide) (smallC c) (placeS en l1) en r lv1 pv1 l1 ps1 (by omega) W (by rw [h]; exact st_bel HST1.out (Bel.refl _).drew)
        have hone : Calls Tryd.prog 104 #[.pointer (some ⟨r, 0, none⟩), .agg #[.int .u8 76, .int .i64 2, .int .i64 2], .bool (smallC c), .int .i64 (placeS en l1)] wr.drew (OncePost wr.drew r en (onceS en ruleL (smallC c) (placeS en l1) l1 ps1)) := honce _ rfl
        have hpla' : Calls Tryd.prog 106 #[.pointer (some ⟨r, 0, none⟩)] wr.drew fun e w' => e = .returned (.int .i64 (placeS en l1)) ∧ wr.drew = w' := place_any r lv1 pv1 (.pointer none) en l1 r wr.drew (st_bel HST1.out (Bel.refl _).drew).1 (st_bel HST1.out (Bel.refl _).drew).2.1
        clear honce hpla
        go_wp2_with (first
          | (go_at_call 105; (with_reducible refine hnum.mono ?_); rintro e w9 ⟨rfl, rfl⟩))
        go_region_law (first
          | (go_simp; go_at_call 106; (with_reducible refine hpla'.mono ?_); rintro e w9 ⟨rfl, rfl⟩)
          | (go_simp; go_at_call 104; (with_reducible refine hone.mono ?_); rintro e w9 ho9; (have he9 := ho9.1); subst he9))
        all_goals
          obtain ⟨gg, hgg, HLP9⟩ := lp_once (w1 := wr.drew) (HBL.out.drew) (Kp.trans HKP.out (Bel.kp (Bel.refl _).drew)) (HBX.out.kp (Bel.kp (Bel.refl _).drew)) ho9 hw1 (by decide) R g' (by dsimp only [ruleL]; omega) (by rw [HR1.out, againS, if_pos (show 0 < (ruleL : Rl).count ∧ numS l1 = true from ⟨(by decide), hn⟩)]; rfl)
          have HLP9 := Lib.hid HLP9
          clear ho9
          go_wp2
          go_roundg gg
          case measure => omega
          case rel => exact HLP9.out
    · have HR1 := Lib.hid hR1
      have HBD := Lib.hid hbad1
      obtain ⟨b9, hrd9, _, _⟩ := hbad1
      obtain ⟨⟨r0, r1, r2, r3⟩, _⟩ := hrd9.all
      clear hrd9 hR1
      go_wp2
      exact bodyPost_end (v := .tuple #[]) (by simp [results, Tryd.results80, go_sem]) rfl (lp_bad HBL.out HKP.out HBD.out HR1.out)

end Go.Proofs.YtefajplbgmikdaaDoor

/-
  The reader's letter, whatever letter it is.
-/
namespace Go.Proofs.YtefajplbgmikdaaDoor
open Go.RowKit

theorem rule_move {x : Rl} (h : x ∈ rulesL) (hk : x.kind = 1) : x = ⟨77, 2, 1⟩ := by
  have : ∀ x ∈ rulesL, x.kind = 1 → x = ⟨77, 2, 1⟩ := by decide
  exact this x h hk
theorem rule_close {x : Rl} (h : x ∈ rulesL) (hk : x.kind = 6) : x = ⟨90, 0, 6⟩ := by
  have : ∀ x ∈ rulesL, x.kind = 6 → x = ⟨90, 0, 6⟩ := by decide
  exact this x h hk
theorem letter_any (c : Nat) (hc : c < 256) (more : Bool) (pl en : Int) (hp1 : -4611686018427387904 ≤ pl) (hp2 : pl ≤ 4611686018427387904) (r : Nat) (lv pv : Value) (l : List Tok) (ps : List Part) (hps : ps.length + wt l ≤ 900000000) (w : World) (hr : Rul w) (hst : St w r lv en pv l ps) (hg : 2 < r) :
    Calls Tryd.prog 80 #[.pointer (some ⟨r, 0, none⟩), .int .u8 c, .int .i64 pl, .bool more] w (OncePost w r en (letterS en c pl more l ps)) := by
  by_cases hbad : letterBad c ps
  · exact letter_fails c hc more pl en r lv pv l ps (by omega) w hr hst hbad
  cases hx : ruleOf c with
  | none => exact absurd (.inl hx) hbad
  | some x =>
    have hm := rule_mem hx
    have hnb : ¬ ((ps = [] ∧ x.kind ≠ 1) ∨ (x.kind = 6 ∧ lastKind ps = 6)) := fun h => hbad (.inr ⟨x, hx, h⟩)
    by_cases hps0 : ps = []
    · subst hps0
      have hk1 : x.kind = 1 := by
        by_cases h : x.kind = 1
        · exact h
        · exact absurd (.inl ⟨rfl, h⟩) hnb
      obtain rfl := rule_move hm hk1
      cases more with
      | true => exact letter_move0_more c hc pl en hp1 hp2 r lv pv l (by simpa using hps) w hr hst hx
      | false => exact letter_move0 c hc pl en r lv pv l (by simpa using hps) w hr hst hx hg
    · obtain ⟨ini, z, rfl⟩ : ∃ ini z, ps = ini ++ [z] := ⟨ps.dropLast, ps.getLast hps0, (List.dropLast_concat_getLast hps0).symm⟩
      rw [lastKind_snoc] at hnb
      have hil : ini.length + wt l ≤ 900000000 := by simp at hps; omega
      by_cases hk1 : x.kind = 1
      · obtain rfl := rule_move hm hk1
        cases more with
        | true => exact letter_move_more c hc pl en hp1 hp2 r lv pv l ini z hil w hr hst hx
        | false => exact letter_move c hc pl en r lv pv l ini z hil w hr hst hx hg
      · by_cases hk6 : x.kind = 6
        · obtain rfl := rule_close hm hk6
          have hz : z.r.kind ≠ 6 := fun h => hnb (.inr ⟨rfl, h⟩)
          cases more with
          | true => exact letter_close_more c hc pl en r lv pv l ini z hil w hr hst hx hz
          | false => exact letter_close c hc pl en r lv pv l ini z hil w hr hst hx hz
        · cases more with
          | true => exact letter_other_more c hc pl en hp1 hp2 r lv pv l ini z hil w hr hst x hx hk1 hk6
          | false => exact letter_other c hc pl en r lv pv l ini z hil w hr hst x hx hk1 hk6
end Go.Proofs.YtefajplbgmikdaaDoor

/-
  The walk of the reader's read.
-/
namespace Go.Proofs.YtefajplbgmikdaaDoor
open Go.RowKit

/-- A token that the reader can take: its numbers are small enough. -/
def TkOk (t : Tok) : Prop := 0 ≤ t.place ∧ t.place ≤ 1099511627776 ∧ t.s.length ≤ 1000000000 ∧ -4611686018427387904 ≤ t.n ∧ t.n ≤ 4611686018427387904
/-- What 'read' leaves behind. -/
def ReadPost (w : World) (r : Nat) (en : Int) (s : Except Int (List Part)) (e : Ending) (w' : World) : Prop :=
  e = .returned (.tuple #[]) ∧ Below r w w' ∧ Kp w w' ∧ match s with
    | .ok ps => ∃ lv pv, Rd w' r lv en pv (.pointer none) ∧ PRow w' r pv ps
    | .error a => ∃ lv pv, Bad w' r lv en pv a
/-- Between two tokens. -/
def Out (w0 wr : World) (r : Nat) (en : Int) (R : Except Int (List Part)) (f : Nat) : Prop :=
  Below r w0 wr ∧ Kp w0 wr ∧ ((∃ lv pv l ps, l.length ≤ f ∧ ps.length + wt l ≤ 800000000 ∧ (∀ t ∈ l, TkOk t) ∧ St wr r lv en pv l ps ∧ R = readS en f l ps) ∨ (f = 0 ∧ ∃ lv pv a, Bad wr r lv en pv a ∧ R = .error a))
/-- A token's box. -/
def Tb (w : World) (T : Nat) (t : Tok) : Prop := w.heap[T]? = some (.cells #[.int .i64 t.kind, .string ⟨t.s.toArray⟩, .int .i64 t.n, .int .i64 t.place] 106 (0, 0))
theorem Tb.kp {w w' : World} {T : Nat} {t : Tok} (h : Tb w T t) (hk : Kp w w') : Tb w' T t := hk T _ h (fun cs fr e => by cases e) (fun cs fr e => by cases e)
theorem Tb.all {w : World} {T : Nat} {t : Tok} (h : Tb w T t) : w.cell? ⟨T, 0, none⟩ = some (.int .i64 t.kind) ∧ w.cell? ⟨T, 1, none⟩ = some (.string ⟨t.s.toArray⟩) ∧ w.cell? ⟨T, 2, none⟩ = some (.int .i64 t.n) ∧ w.cell? ⟨T, 3, none⟩ = some (.int .i64 t.place) :=
  ⟨by rw [heap_cell h]; rfl, by rw [heap_cell h]; rfl, by rw [heap_cell h]; rfl, by rw [heap_cell h]; rfl⟩
/-- Within a token's letters, i of which are read. -/
def Inn (w0 wr : World) (r T : Nat) (t : Tok) (en : Int) (R : Except Int (List Part)) (f i : Nat) : Prop :=
  Below r w0 wr ∧ Kp w0 wr ∧ Tb wr T t ∧ i ≤ t.s.length ∧ ((∃ lv pv l ps, l.length ≤ f ∧ ps.length + wt l + (t.s.length - i) ≤ 800000000 ∧ (∀ t ∈ l, TkOk t) ∧ St wr r lv en pv l ps ∧
    R = match wordS en (t.s.drop i) (t.place + i) l ps with | .ok (l', ps') => readS en f l' ps' | .error e => .error e) ∨ (∃ lv pv a, Bad wr r lv en pv a ∧ R = .error a))
theorem read_nil (en : Int) (f : Nat) (ps : List Part) : readS en f [] ps = .ok ps := by cases f <;> rfl
theorem inn_step {w0 w1 w2 : World} {r T : Nat} {t : Tok} {en : Int} {R : Except Int (List Part)} {f i : Nat} {l : List Tok} {ps : List Part} {e : Ending} (hi : i < t.s.length) (hb : Below r w0 w1) (hk : Kp w0 w1) (hT : Tb w1 T t)
    (h : OncePost w1 r en (letterS en (t.s[i]'hi).toNat (t.place + i) (decide (i + 1 < t.s.length)) l ps) e w2) (hl : l.length ≤ f) (hn : ps.length + wt l + (t.s.length - i) ≤ 800000000) (hp : ∀ t ∈ l, TkOk t)
    (hR : R = match wordS en (t.s.drop i) (t.place + i) l ps with | .ok (l', ps') => readS en f l' ps' | .error e => .error e) : Inn w0 w2 r T t en R f (i + 1) := by
  obtain ⟨_, h1, h2, h3⟩ := h
  refine ⟨hb.trans h1, hk.trans h2, hT.kp h2, by omega, ?_⟩
  rw [List.drop_eq_getElem_cons hi, wordS] at hR
  have hmore : (!(t.s.drop (i + 1)).isEmpty) = decide (i + 1 < t.s.length) := by
    rw [Bool.eq_iff_iff]
    simp
  rw [hmore] at hR
  cases hs : letterS en (t.s[i]'hi).toNat (t.place + i) (decide (i + 1 < t.s.length)) l ps with
  | error a =>
    rw [hs] at h3 hR
    obtain ⟨lv, pv, h3⟩ := h3
    exact .inr ⟨lv, pv, a, h3, hR⟩
  | ok q =>
    obtain ⟨l', ps'⟩ := q
    rw [hs] at h3 hR
    obtain ⟨lv, pv, h3⟩ := h3
    have hw := letter_wt hs
    refine .inl ⟨lv, pv, l', ps', by omega, by omega, ?_, h3, ?_⟩
    · exact (letter_toks hs hp)
    · rw [hR, show t.place + ((i + 1 : Nat) : Int) = t.place + i + 1 by omega]
end Go.Proofs.YtefajplbgmikdaaDoor
