/-
  The walk of the reader's letter, where it goes on.
-/
import Derived.Test.YtefajplbgmikdaaDoorPathE
import Derived.Test.YtefajplbgmikdaaDoorPathSpecB
namespace Go.Proofs.YtefajplbgmikdaaDoor
open Go.RowKit

theorem Rul.below {w w' : World} {r : Nat} (h : Rul w) (hb : Below r w w') (hg : 2 < r) : Rul w' := fun j v hj => (hb.cell (p := ⟨2, 0 + j, none⟩) hg).trans (h j v hj)
/-- The rule's box in the letter's own frame. -/
def Bx (w : World) (X : Nat) (x : Rl) : Prop := w.heap[X]? = some (.cells #[.int .u8 x.name, .int .i64 x.count, .int .i64 x.kind] 121 (0, 0))
theorem Bx.kp {w w' : World} {X : Nat} {x : Rl} (h : Bx w X x) (hk : Kp w w') : Bx w' X x := hk X _ h (fun cs fr e => by cases e) (fun cs fr e => by cases e)
theorem Bx.all {w : World} {X : Nat} {x : Rl} (h : Bx w X x) : (w.cell? ⟨X, 0, none⟩ = some (.int .u8 x.name) ∧ w.cell? ⟨X, 1, none⟩ = some (.int .i64 x.count) ∧ w.cell? ⟨X, 2, none⟩ = some (.int .i64 x.kind)) ∧ ∀ j, w.frozen? ⟨X, j, none⟩ = false :=
  ⟨⟨by rw [heap_cell h]; rfl, by rw [heap_cell h]; rfl, by rw [heap_cell h]; rfl⟩, heap_frozen h⟩
/-- Another rule is laid into the box. -/
def set3 (w : World) (X : Nat) (y : Rl) : World := ((w.setCell ⟨X, 0, none⟩ (.int .u8 y.name)).setCell ⟨X, 1, none⟩ (.int .i64 y.count)).setCell ⟨X, 2, none⟩ (.int .i64 y.kind)
theorem Bx.set {w : World} {X : Nat} {x : Rl} (h : Bx w X x) (y : Rl) : Bx (set3 w X y) X y := heap_set (heap_set (heap_set h 0 _) 1 _) 2 _
theorem set3_off {w : World} {X : Nat} (y : Rl) {k : Nat} (hk : k ≠ X) : (set3 w X y).heap[k]? = w.heap[k]? := by
  unfold set3
  rw [Below.heap_setCell _ _ _ _ (by simpa using hk), Below.heap_setCell _ _ _ _ (by simpa using hk), Below.heap_setCell _ _ _ _ (by simpa using hk)]
theorem set3_below {w : World} {r X : Nat} (y : Rl) (h : r ≤ X) : Below r w (set3 w X y) := (((Below.refl r w).setCell (p := ⟨X, 0, none⟩) h _).setCell (p := ⟨X, 1, none⟩) h _).setCell (p := ⟨X, 2, none⟩) h _
theorem set3_st {w : World} {r X : Nat} {x y : Rl} {lv pv : Value} {en : Int} {l : List Tok} {ps : List Part} (hx : Bx w X x) (hr : r < X) (h : St w r lv en pv l ps) : St (set3 w X y) r lv en pv l ps := by
  obtain ⟨h1, h2, qs, hq, ho, hn⟩ := h
  have hne : ∀ {base e size n : Nat} {v : Value} {zs : List Value}, w.ownsRow base e size v n zs → e ≠ 121 → (set3 w X y).ownsRow base e size v n zs := fun hz he => own_keep hz fun k hk => set3_off y fun e2 => by
    subst e2
    obtain ⟨c1, e1⟩ := own_type hz hk
    rw [hx] at e1
    cases e1
    exact he rfl
  exact ⟨(set3_off y (by omega)).trans h1, h2.below (set3_below y (by omega)), qs, hq, hne ho (by decide), fun q hq => hne (hn q hq) (by decide)⟩

/-- In the loop over letters that come again. -/
def Lp (w0 wr : World) (r X : Nat) (x : Rl) (sm : Bool) (en : Int) (R : Except Int (List Tok × List Part)) (f : Nat) : Prop :=
  Below r w0 wr ∧ Kp w0 wr ∧ Bx wr X x ∧ ((∃ lv pv l ps, l.length ≤ f ∧ ps.length + wt l ≤ 999999999 ∧ St wr r lv en pv l ps ∧ R = againS en x sm f l ps) ∨ (f = 0 ∧ ∃ lv pv a, Bad wr r lv en pv a ∧ R = .error a))
theorem lp_once {w0 w1 w2 : World} {r X : Nat} {x : Rl} {sm : Bool} {en pl : Int} {l : List Tok} {ps : List Part} {e : Ending} (hb : Below r w0 w1) (hk : Kp w0 w1) (hx : Bx w1 X x) (h : OncePost w1 r en (onceS en x sm pl l ps) e w2) (hn : ps.length + wt l ≤ 999999999) (hc1 : 1 ≤ x.count)
    (R : Except Int (List Tok × List Part)) (f : Nat) (hf : l.length ≤ f + x.count) (hR : R = match onceS en x sm pl l ps with | .ok (l', ps') => againS en x sm f l' ps' | .error a => .error a) : ∃ g, g ≤ f ∧ Lp w0 w2 r X x sm en R g := by
  obtain ⟨_, h1, h2, h3⟩ := h
  cases hs : onceS en x sm pl l ps with
  | error a =>
    rw [hs] at h3 hR
    obtain ⟨lv, pv, h3⟩ := h3
    exact ⟨0, Nat.zero_le _, hb.trans h1, hk.trans h2, hx.kp h2, .inr ⟨rfl, lv, pv, a, h3, hR⟩⟩
  | ok q =>
    obtain ⟨l', ps'⟩ := q
    rw [hs] at h3 hR
    obtain ⟨lv, pv, h3⟩ := h3
    have := once_wt hs
    exact ⟨f, Nat.le_refl _, hb.trans h1, hk.trans h2, hx.kp h2, .inl ⟨lv, pv, l', ps', by omega, by omega, h3, hR⟩⟩
theorem again_zero {en : Int} {x : Rl} {sm : Bool} {f : Nat} {l : List Tok} {ps : List Part} (h : ¬ (0 < x.count ∧ numS l = true)) : againS en x sm f l ps = .ok (l, ps) := by
  cases f with
  | zero => rfl
  | succ f => rw [againS, if_neg h]
theorem lp_end {w0 wr : World} {r : Nat} {x : Rl} {sm : Bool} {en : Int} {R : Except Int (List Tok × List Part)} {lv pv : Value} {l : List Tok} {ps : List Part} {f : Nat} (hb : Below r w0 wr) (hk : Kp w0 wr) (hs : St wr r lv en pv l ps) (hR : R = againS en x sm f l ps)
    (h : ¬ (0 < x.count ∧ numS l = true)) : OncePost w0 r en R (.returned (.tuple #[])) wr := by
  rw [hR, again_zero h]
  exact ⟨rfl, hb, hk, lv, pv, hs⟩
theorem lp_bad {w0 wr : World} {r : Nat} {en a : Int} {R : Except Int (List Tok × List Part)} {lv pv : Value} (hb : Below r w0 wr) (hk : Kp w0 wr) (hs : Bad wr r lv en pv a) (hR : R = .error a) : OncePost w0 r en R (.returned (.tuple #[])) wr := by
  rw [hR]
  exact ⟨rfl, hb, hk, lv, pv, hs⟩
theorem lp_start {w w1 w2 : World} {r : Nat} {x : Rl} {sm : Bool} {en pl : Int} {lv pv : Value} {l : List Tok} {ps : List Part} {e : Ending} {R : Except Int (List Tok × List Part)} (hst : St w r lv en pv l ps) (hb : Bel w w1)
    (h : OncePost (w1.alloc (.cells #[.int .u8 x.name, .int .i64 x.count, .int .i64 x.kind] 121)) r en (onceS en x sm pl l ps) e w2) (hn : ps.length + wt l + 1 ≤ 999999999)
    (hR : R = match onceS en x sm pl l ps with | .ok (l', ps') => againS en x sm l'.length l' ps' | .error a => .error a) : ∃ f, Hid (Lp w w2 r w1.heap.size x sm en R f) := by
  obtain ⟨_, h1, h2, h3⟩ := h
  have hbx : Bx (w1.alloc (.cells #[.int .u8 x.name, .int .i64 x.count, .int .i64 x.kind] 121)) w1.heap.size x := heap_alloc_new _ _
  have hbb : Bel w (w1.alloc (.cells #[.int .u8 x.name, .int .i64 x.count, .int .i64 x.kind] 121)) := hb.alloc _
  have hb0 : Below r w (w1.alloc (.cells #[.int .u8 x.name, .int .i64 x.count, .int .i64 x.kind] 121)) := Below.mono hbb (by have := heap_lt hst.1; omega)
  cases hs : onceS en x sm pl l ps with
  | error a =>
    rw [hs] at h3 hR
    obtain ⟨lv, pv, h3⟩ := h3
    exact ⟨0, hb0.trans h1, Kp.trans hbb.kp h2, hbx.kp h2, .inr ⟨rfl, lv, pv, a, h3, hR⟩⟩
  | ok q =>
    obtain ⟨l', ps'⟩ := q
    rw [hs] at h3 hR
    obtain ⟨lv, pv, h3⟩ := h3
    have := once_wt hs
    exact ⟨l'.length, hb0.trans h1, Kp.trans hbb.kp h2, hbx.kp h2, .inl ⟨lv, pv, l', ps', Nat.le_refl _, by omega, h3, hR⟩⟩
theorem Rul.alloc' {w : World} (h : Rul w) (o : Obj) : Rul (w.alloc o) := Bel.rul ((Bel.refl w).alloc o) h
theorem find_L : findS 76 = (ruleL, false, true) := rfl
theorem find_76 (w : World) (hr : Rul w) : Calls Tryd.prog 103 #[.int .u8 76] w fun e w' => e = .returned (.tuple #[.agg #[.int .u8 76, .int .i64 2, .int .i64 2], .bool false, .bool true]) ∧ Bel w w' := find_any 76 w (by decide) hr
theorem OncePost.below {w w' : World} {r : Nat} {en : Int} {s : Except Int (List Tok × List Part)} {e : Ending} (h : OncePost w r en s e w') : Below r w w' := h.2.1
theorem lp_move {w w1 w2 w3 : World} {r : Nat} {sm : Bool} {en pl : Int} {lv pv : Value} {l : List Tok} {ps : List Part} {e : Ending} {R : Except Int (List Tok × List Part)} (hst : St w r lv en pv l ps) (hb : Bel w w1)
    (h : OncePost (w1.alloc (.cells #[.int .u8 77, .int .i64 2, .int .i64 1] 121)) r en (onceS en ⟨77, 2, 1⟩ sm pl l ps) e w2) (hb3 : Bel w2 w3) (hn : ps.length + wt l + 1 ≤ 999999999)
    (hR : R = match onceS en ⟨77, 2, 1⟩ sm pl l ps with | .ok (l', ps') => againS en ruleL sm l'.length l' ps' | .error a => .error a) : ∃ f, Hid (Lp w (set3 w3 w1.heap.size ruleL) r w1.heap.size ruleL sm en R f) := by
  obtain ⟨_, h1, h2, h3⟩ := h
  have hbx : Bx (w1.alloc (.cells #[.int .u8 77, .int .i64 2, .int .i64 1] 121)) w1.heap.size ⟨77, 2, 1⟩ := heap_alloc_new _ _
  have hbb : Bel w (w1.alloc (.cells #[.int .u8 77, .int .i64 2, .int .i64 1] 121)) := hb.alloc _
  have hrl := heap_lt hst.1
  have hr1 : r < w1.heap.size := Nat.lt_of_lt_of_le hrl hb.size
  have hb0 : Below r w (w1.alloc (.cells #[.int .u8 77, .int .i64 2, .int .i64 1] 121)) := Below.mono hbb (by omega)
  have hx2 := hbx.kp h2
  have hx3 : Bx w3 w1.heap.size ⟨77, 2, 1⟩ := hb3.heap hx2
  have hlt2 := heap_lt hx2
  have hbel : Below r w (set3 w3 w1.heap.size ruleL) := (hb0.trans h1).trans ((Below.mono hb3 (by omega)).trans (set3_below _ (by omega)))
  have hkp : Kp w (set3 w3 w1.heap.size ruleL) := fun k o ho a1 a2 => by
    have hk : k < w1.heap.size := Nat.lt_of_lt_of_le (heap_lt ho) hb.size
    rw [set3_off _ (by omega)]
    exact (Kp.trans (Kp.trans hbb.kp h2) hb3.kp) k o ho a1 a2
  cases hs : onceS en ⟨77, 2, 1⟩ sm pl l ps with
  | error a =>
    rw [hs] at h3 hR
    obtain ⟨lv, pv, b, h3, h4, h5⟩ := h3
    have hlt4 := heap_lt h5
    have hbne : b ≠ w1.heap.size := fun e => by
      subst e
      rw [hx2] at h5
      cases h5
    exact ⟨0, hbel, hkp, hx3.set _, .inr ⟨rfl, lv, pv, a, ⟨b, (set3_off _ (by omega)).trans (hb3.heap h3), h4, (set3_off _ hbne).trans (hb3.heap h5)⟩, hR⟩⟩
  | ok q =>
    obtain ⟨l', ps'⟩ := q
    rw [hs] at h3 hR
    obtain ⟨lv, pv, h3⟩ := h3
    have := once_wt hs
    exact ⟨l'.length, hbel, hkp, hx3.set _, .inl ⟨lv, pv, l', ps', Nat.le_refl _, by omega, set3_st hx3 hr1 (st_bel h3 hb3), hR⟩⟩
theorem rule_count {x : Rl} (h : x ∈ rulesL) (hk : x.kind ≠ 6) : 1 ≤ x.count := by
  have : ∀ x ∈ rulesL, x.kind ≠ 6 → 1 ≤ x.count := by decide
  exact this x h hk
end Go.Proofs.YtefajplbgmikdaaDoor
