/-
  The walk of lex.Cut: the tokens of a text, or where it is wrong.
-/
import Derived.Test.YtefajplbgmikdaaDoorLexA
import Derived.Lib.OthersKept
import Derived.Deep.LoopGhost
import Derived.Laws.OwnMore
namespace Go.Proofs.YtefajplbgmikdaaDoor
open Go.RowKit

/-- A token's cells. -/
def tokC (t : Tok) : List Value := [.int .i64 t.kind, .string ⟨t.s.toArray⟩, .int .i64 t.n, .int .i64 t.place]
def toksC (l : List Tok) : List Value := l.flatMap tokC
theorem toksC_snoc (l : List Tok) (t : Tok) : toksC (l ++ [t]) = toksC l ++ tokC t := by simp [toksC]
theorem infoTok : (Tryd.prog.info? 106).map (fun i => (i.zero, i.size, i.bytes)) = some (some (.agg #[.int .i64 0, .string ⟨#[]⟩, .int .i64 0, .int .i64 0]), 4, 40) := by kernel_rfl

theorem own_iterAt {w : World} {B e size n : Nat} {v : Value} {xs : List Value} {k : Nat} {s : ByteArray} {pos : Nat} (h : w.ownsRow B e size v n xs) (hk : w.heap[k]? = some (.stringIter s pos)) (pos' : Nat) : (w.iterAt k s pos').ownsRow B e size v n xs := by
  refine ⟨h.1, ?_⟩
  rcases h.2 with h0 | ⟨g, cap, cur, hv, hb, hg, rest⟩
  · exact .inl h0
  · refine .inr ⟨g, cap, cur, hv, hb, ?_, rest⟩
    rw [Lib.iterAt_other _ _ _ _ _ (fun e => by subst e; rw [hk] at hg; cases hg)]
    exact hg
theorem own_ne_iter {w : World} {B e size n : Nat} {v : Value} {xs : List Value} {k : Nat} {s : ByteArray} {pos : Nat} (h : w.ownsRow B e size v n xs) (hk : w.heap[k]? = some (.stringIter s pos)) : some k ≠ v.ownBlock := by
  rcases h.2 with ⟨rfl, _⟩ | ⟨g, cap, cur, rfl, hb, hg, rest⟩
  · simp [Value.ownBlock]
  · intro e
    simp only [Value.ownBlock, Option.some.injEq] at e
    subst e
    rw [hk] at hg
    cases hg

def emap (acc : List Tok) : Except Nat (List Tok) → Except Nat (List Tok)
  | .ok l => .ok (acc ++ l)
  | .error i => .error i
theorem emap_cons (acc : List Tok) (t : Tok) (x : Except Nat (List Tok)) : emap acc (x.map (t :: ·)) = emap (acc ++ [t]) x := by
  cases x <;> simp [Except.map, emap]
theorem emap_nil (x : Except Nat (List Tok)) : emap [] x = x := by cases x <;> rfl
/-- Where the loop stands. -/
def CutAt (s : ByteArray) (pos nx : Nat) (acc : List Tok) : Prop := cutL (bl s) 0 0 = emap acc (cutL ((bl s).drop pos) pos nx)
def AscAt (s : ByteArray) (pos nx : Nat) : Prop := ∀ j (h : j < s.size), pos ≤ j → j < nx → (s[j]'h).toNat < 128
def CutPost (s : ByteArray) (w : World) (e : Ending) (w' : World) : Prop :=
  Bel w w' ∧ match cutL (bl s) 0 0 with
    | .error i => e = .returned (.tuple #[.slice none 0 0, .int .i64 i, .int .i64 20])
    | .ok l => ∃ v, e = .returned (.tuple #[v, .int .i64 0, .int .i64 0]) ∧ w'.ownsRow w.heap.size 106 4 v l.length (toksC l)
theorem cutPost_bad {s : ByteArray} {w : World} {e : Ending} {w' : World} {i : Nat} (h : cutL (bl s) 0 0 = .error i) (he : e = .returned (.tuple #[.slice none 0 0, .int .i64 i, .int .i64 20])) (hb : Bel w w') : CutPost s w e w' := by
  unfold CutPost; rw [h]; exact ⟨hb, he⟩
theorem cutPost_ok {s : ByteArray} {w : World} {e : Ending} {w' : World} {l : List Tok} {v : Value} (h : cutL (bl s) 0 0 = .ok l) (he : e = .returned (.tuple #[v, .int .i64 0, .int .i64 0])) (ho : w'.ownsRow w.heap.size 106 4 v l.length (toksC l)) (hb : Bel w w') : CutPost s w e w' := by
  unfold CutPost; rw [h]; exact ⟨hb, v, he, ho⟩

theorem cut_skip {s : ByteArray} {pos nx : Nat} {acc : List Tok} (h : CutAt s pos nx acc) (hp : pos < s.size) (hlt : pos < nx) : CutAt s (pos + 1) nx acc := by
  unfold CutAt at h ⊢
  rw [bl_drop s pos hp, cutL, if_pos hlt] at h
  exact h
theorem cut_blank {s : ByteArray} {pos nx : Nat} {acc : List Tok} (h : CutAt s pos nx acc) (hp : pos < s.size) (hlt : ¬ pos < nx) (hk : kd (s[pos]'hp).toNat = 1) : CutAt s (pos + 1) nx acc := by
  unfold CutAt at h ⊢
  rw [bl_drop s pos hp, cutL, if_neg hlt, if_pos hk] at h
  exact h
theorem cut_bad {s : ByteArray} {pos nx : Nat} {acc : List Tok} (h : CutAt s pos nx acc) (hp : pos < s.size) (hlt : ¬ pos < nx) (hk : kd (s[pos]'hp).toNat = 0) : cutL (bl s) 0 0 = .error pos := by
  unfold CutAt at h
  rw [bl_drop s pos hp, cutL, if_neg hlt] at h
  simpa [hk, emap] using h
theorem cut_end {s : ByteArray} {pos nx : Nat} {acc : List Tok} (h : CutAt s pos nx acc) (hp : ¬ pos < s.size) : cutL (bl s) 0 0 = .ok acc := by
  unfold CutAt at h
  rw [List.drop_of_length_le (by rw [bl_length]; omega)] at h
  simpa [cutL, emap] using h
theorem cut_letter {s : ByteArray} {pos nx : Nat} {acc : List Tok} (h : CutAt s pos nx acc) (hp : pos < s.size) (hlt : ¬ pos < nx) (hk : kd (s[pos]'hp).toNat = 2) :
    CutAt s (pos + 1) (pos + runL 2 ((bl s).drop pos)) (acc ++ [⟨1, ((bl s).drop pos).take (runL 2 ((bl s).drop pos)), 0, pos⟩]) := by
  unfold CutAt at h ⊢
  rw [h, ← emap_cons]
  conv => lhs; rw [bl_drop s pos hp, cutL, if_neg hlt]
  simp only [hk]
  rw [bl_drop s pos hp]
  rfl
theorem cut_digit {s : ByteArray} {pos nx : Nat} {acc : List Tok} (h : CutAt s pos nx acc) (hp : pos < s.size) (hlt : ¬ pos < nx) (hk : kd (s[pos]'hp).toNat = 3) :
    CutAt s (pos + 1) (pos + runL 3 ((bl s).drop pos)) (acc ++ [⟨2, [], numN 0 (((bl s).drop pos).take (runL 3 ((bl s).drop pos))), pos⟩]) := by
  unfold CutAt at h ⊢
  rw [h, ← emap_cons]
  conv => lhs; rw [bl_drop s pos hp, cutL, if_neg hlt]
  simp only [hk]
  rw [bl_drop s pos hp]
  rfl
theorem cut_minus {s : ByteArray} {pos nx : Nat} {acc : List Tok} (h : CutAt s pos nx acc) (hp : pos < s.size) (hlt : ¬ pos < nx) (hk : kd (s[pos]'hp).toNat = 4) (h0 : runL 3 ((bl s).drop (pos + 1)) ≠ 0) :
    CutAt s (pos + 1) (pos + (runL 3 ((bl s).drop (pos + 1)) + 1)) (acc ++ [⟨2, [], -(numN 0 (((bl s).drop (pos + 1)).take (runL 3 ((bl s).drop (pos + 1)))) : Int), pos⟩]) := by
  unfold CutAt at h ⊢
  rw [h, ← emap_cons]
  conv => lhs; rw [bl_drop s pos hp, cutL, if_neg hlt]
  simp [hk, h0]
theorem cut_minus0 {s : ByteArray} {pos nx : Nat} {acc : List Tok} (h : CutAt s pos nx acc) (hp : pos < s.size) (hlt : ¬ pos < nx) (hk : kd (s[pos]'hp).toNat = 4) (h0 : runL 3 ((bl s).drop (pos + 1)) = 0) : cutL (bl s) 0 0 = .error pos := by
  unfold CutAt at h
  rw [bl_drop s pos hp, cutL, if_neg hlt] at h
  simpa [hk, emap, h0] using h
theorem cut_line {s : ByteArray} {pos nx : Nat} {acc : List Tok} (h : CutAt s pos nx acc) (hp : pos < s.size) (hlt : ¬ pos < nx) (hk : kd (s[pos]'hp).toNat = 5) :
    CutAt s (pos + 1) (pos + 1) (acc ++ [⟨3, [], 0, pos⟩]) := by
  unfold CutAt at h ⊢
  rw [h, ← emap_cons]
  conv => lhs; rw [bl_drop s pos hp, cutL, if_neg hlt]
  simp [hk]
end Go.Proofs.YtefajplbgmikdaaDoor
