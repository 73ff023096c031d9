/-
  The walks of the reader's fail, place, number.
-/
import Derived.Test.YtefajplbgmikdaaDoorPathA
import Derived.Test.YtefajplbgmikdaaDoorLexB
namespace Go.Proofs.YtefajplbgmikdaaDoor
open Go.RowKit

theorem heap_cell {w : World} {r : Nat} {cs : Array Value} {t : TypeId} (h : w.heap[r]? = some (.cells cs t (0, 0))) (j : Nat) : w.cell? ⟨r, j, none⟩ = cs[j]? := by simp [World.cell?, h]
theorem heap_frozen {w : World} {r : Nat} {cs : Array Value} {t : TypeId} (h : w.heap[r]? = some (.cells cs t (0, 0))) (j : Nat) : w.frozen? ⟨r, j, none⟩ = false := by simp [World.frozen?, h]
theorem heap_set {w : World} {r : Nat} {cs : Array Value} {t : TypeId} (h : w.heap[r]? = some (.cells cs t (0, 0))) (j : Nat) (v : Value) : (w.setCell ⟨r, j, none⟩ v).heap[r]? = some (.cells (cs.setIfInBounds j v) t (0, 0)) := by
  simp [World.setCell, Array.getElem?_modify, h]
theorem heap_lt {w : World} {r : Nat} {o : Obj} (h : w.heap[r]? = some o) : r < w.heap.size := (Array.getElem?_eq_some_iff.1 h).1
theorem heap_push_of {w : World} {r : Nat} {o : Obj} (h : w.heap[r]? = some o) (q : Obj) : (w.alloc q).heap[r]? = some o := (Below.heap_alloc _ _ _ (heap_lt h)).trans h
theorem Bel.heap {w w' : World} (h : Bel w w') {r : Nat} {o : Obj} (hr : w.heap[r]? = some o) : w'.heap[r]? = some o := (Below.block h r (heap_lt hr)).trans hr

/-- The reader's box. -/
def Rd (w : World) (r : Nat) (lv : Value) (en : Int) (pv bv : Value) : Prop := w.heap[r]? = some (.cells #[lv, .int .i64 en, pv, bv] 114 (0, 0))
theorem Rd.all {w : World} {r : Nat} {lv pv bv : Value} {en : Int} (h : Rd w r lv en pv bv) : (w.cell? ⟨r, 0, none⟩ = some lv ∧ w.cell? ⟨r, 1, none⟩ = some (.int .i64 en) ∧ w.cell? ⟨r, 2, none⟩ = some pv ∧ w.cell? ⟨r, 3, none⟩ = some bv) ∧ ∀ j, w.frozen? ⟨r, j, none⟩ = false :=
  ⟨⟨by rw [heap_cell h]; rfl, by rw [heap_cell h]; rfl, by rw [heap_cell h]; rfl, by rw [heap_cell h]; rfl⟩, fun j => heap_frozen h j⟩
/-- A row of tokens, in a block below N. -/
def TokRow (w : World) (N : Nat) (lv : Value) (l : List Tok) : Prop :=
  ∃ p c, lv = .slice p l.length c ∧ l.length ≤ c ∧ (l = [] ∨ ∃ b o, p = some ⟨b, o, none⟩ ∧ b < N ∧ ∀ (i : Nat) t, l[i]? = some t → ∀ j v, (tokC t)[j]? = some v → w.cell? ⟨b, o + i * 4 + j, none⟩ = some v)
theorem TokRow.below {w w' : World} {N : Nat} {lv : Value} {l : List Tok} (h : TokRow w N lv l) (hb : Below N w w') : TokRow w' N lv l := by
  obtain ⟨p, c, e, hl, h⟩ := h
  refine ⟨p, c, e, hl, ?_⟩
  rcases h with h | ⟨b, o, rfl, hlt, hc⟩
  · exact .inl h
  · exact .inr ⟨b, o, rfl, hlt, fun i t hi j v hv => (hb.cell (p := ⟨b, o + i * 4 + j, none⟩) hlt).trans (hc i t hi j v hv)⟩
theorem TokRow.mono {w : World} {N M : Nat} {lv : Value} {l : List Tok} (h : TokRow w N lv l) (hn : N ≤ M) : TokRow w M lv l := by
  obtain ⟨p, c, e, hl, h⟩ := h
  refine ⟨p, c, e, hl, ?_⟩
  rcases h with h | ⟨b, o, rfl, hlt, hc⟩
  · exact .inl h
  · exact .inr ⟨b, o, rfl, by omega, hc⟩
theorem TokRow.cons {w : World} {N : Nat} {lv : Value} {t : Tok} {l : List Tok} (h : TokRow w N lv (t :: l)) : ∃ b o c, lv = .slice (some ⟨b, o, none⟩) (l.length + 1) c ∧ l.length + 1 ≤ c ∧ b < N ∧
    (w.cell? ⟨b, o, none⟩ = some (.int .i64 t.kind) ∧ w.cell? ⟨b, o + 1, none⟩ = some (.string ⟨t.s.toArray⟩) ∧ w.cell? ⟨b, o + 2, none⟩ = some (.int .i64 t.n) ∧ w.cell? ⟨b, o + 3, none⟩ = some (.int .i64 t.place)) ∧
    TokRow w N (.slice (if c = 1 then some ⟨b, o, none⟩ else some ⟨b, o + 4, none⟩) l.length (c - 1)) l := by
  obtain ⟨p, c, rfl, hl, h⟩ := h
  rcases h with h | ⟨b, o, rfl, hlt, hc⟩
  · cases h
  · have hl' : l.length + 1 ≤ c := by simpa using hl
    have h0 := hc 0 t rfl
    refine ⟨b, o, c, rfl, hl', hlt, ⟨by have := h0 0 _ rfl; simpa using this, by have := h0 1 _ rfl; simpa using this, by have := h0 2 _ rfl; simpa using this, by have := h0 3 _ rfl; simpa using this⟩, _, _, rfl, by omega, ?_⟩
    by_cases h1 : l = []
    · exact .inl h1
    · have : 0 < l.length := List.length_pos_iff.2 h1
      rw [if_neg (by omega)]
      exact .inr ⟨b, o + 4, rfl, hlt, fun i t' hi j v hv => by
        have := hc (i + 1) t' (by simpa using hi) j v hv
        rwa [show o + (i + 1) * 4 + j = o + 4 + i * 4 + j by omega] at this⟩

theorem place_any (r : Nat) (lv pv bv : Value) (en : Int) (l : List Tok) (N : Nat) (w : World) (hr : Rd w r lv en pv bv) (hl : TokRow w N lv l) :
    Calls Tryd.prog 106 #[.pointer (some ⟨r, 0, none⟩)] w fun e w' => e = .returned (.int .i64 (placeS en l)) ∧ w = w' := by
  obtain ⟨⟨hc0, hc1, hc2, hc3⟩, _⟩ := hr.all
  cases l with
  | nil =>
    obtain ⟨p, c, rfl, _⟩ := hl
    go_enter Tryd.func106, Tryd.ntmps106
    go_wp2
    go_ret
    exact ⟨rfl, rfl⟩
  | cons t l =>
    obtain ⟨b, o, c, rfl, hc, _, ⟨q0, q1, q2, q3⟩, _⟩ := hl.cons
    clear hr hl hc
    go_enter Tryd.func106, Tryd.ntmps106
    go_wp2
    go_ret
    exact ⟨rfl, rfl⟩
theorem number_yes (r : Nat) (lv pv bv : Value) (en : Int) (l : List Tok) (N : Nat) (w : World) (hr : Rd w r lv en pv bv) (hl : TokRow w N lv l) :
    Calls Tryd.prog 105 #[.pointer (some ⟨r, 0, none⟩)] w fun e w' => e = .returned (.bool (numS l)) ∧ w = w' := by
  obtain ⟨⟨hc0, hc1, hc2, hc3⟩, _⟩ := hr.all
  cases l with
  | nil =>
    obtain ⟨p, c, rfl, _⟩ := hl
    go_enter Tryd.func105, Tryd.ntmps105
    go_wp2
    go_ret
    exact ⟨rfl, rfl⟩
  | cons t l =>
    obtain ⟨b, o, c, rfl, hc, _, ⟨q0, q1, q2, q3⟩, _⟩ := hl.cons
    have hp : decide ((0 : Int) < (l.length : Int) + 1) = true := decide_eq_true (by omega)
    have hn : numS (t :: l) = (t.kind == 2) := by rw [numS, Bool.eq_iff_iff]; simp
    rw [hn]
    clear hr hl hc hn
    go_enter Tryd.func105, Tryd.ntmps105
    go_wp2
    go_ret
    exact ⟨rfl, rfl⟩
/-- An error is noted. -/
def Bad (w : World) (r : Nat) (lv : Value) (en : Int) (pv : Value) (a : Int) : Prop := ∃ b, Rd w r lv en pv (.pointer (some ⟨b, 0, none⟩)) ∧ r < b ∧ w.heap[b]? = some (.cells #[.int .i64 a, .int .i64 20] 116 (0, 0))
/-- All old blocks but one are as they were. -/
def KeepBut (r : Nat) (w w' : World) : Prop := ∀ k, k < w.heap.size → k ≠ r → w'.heap[k]? = w.heap[k]?
theorem fail_any (r : Nat) (lv pv bv : Value) (en a : Int) (w : World) (hr : Rd w r lv en pv bv) :
    Calls Tryd.prog 79 #[.pointer (some ⟨r, 0, none⟩), .int .i64 a] w fun e w' => e = .returned (.tuple #[]) ∧ Below r w w' ∧ KeepBut r w w' ∧ Bad w' r lv en pv a := by
  have hfin : ∀ V, V = (w.alloc (.cells #[.int .i64 a, .int .i64 20] 116)).setCell ⟨r, 3, none⟩ (.pointer (some ⟨w.heap.size, 0, none⟩)) → Below r w V ∧ KeepBut r w V ∧ Bad V r lv en pv a := by
    rintro V rfl
    have hlt := heap_lt hr
    have h1 := heap_set (heap_push_of hr (.cells #[.int .i64 a, .int .i64 20] 116)) 3 (.pointer (some ⟨w.heap.size, 0, none⟩))
    refine ⟨((Below.refl r w).alloc (by omega) _).setCell (p := ⟨r, 3, none⟩) (Nat.le_refl _) _, fun k hk hkr => by rw [Below.heap_setCell _ _ _ _ (by simpa using hkr)]; exact Below.heap_alloc _ _ _ hk, w.heap.size, h1, hlt, ?_⟩
    rw [Below.heap_setCell _ _ _ _ (by simp; omega)]
    exact heap_alloc_new _ _
  have HF := Lib.hid hfin
  have hc3 : ∀ o, (w.alloc o).cell? ⟨r, 3, none⟩ = some bv := fun o => by rw [heap_cell (heap_push_of hr o)]; rfl
  have hf3 : ∀ o, (w.alloc o).frozen? ⟨r, 3, none⟩ = false := fun o => heap_frozen (heap_push_of hr o) 3
  clear hr hfin
  go_enter Tryd.func79, Tryd.ntmps79
  go_wp2
  exact bodyPost_end (v := .tuple #[]) (by simp [results, Tryd.results79, go_sem]) rfl ⟨rfl, HF.out _ rfl⟩
end Go.Proofs.YtefajplbgmikdaaDoor
