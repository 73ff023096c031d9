/-
  The walks of path.in and of the pen's mirrored.
-/
import Derived.Test.YtefajplbgmikdaaDoorPathL
namespace Go.Proofs.YtefajplbgmikdaaDoor
open Go.RowKit

theorem in_any (v : Int) (w : World) : Calls Tryd.prog 58 #[.int .i64 v] w fun e w' => e = .returned (.bool (inR v)) ∧ w = w' := by
  unfold inR
  by_cases h1 : -2147483648 < v
  · by_cases h2 : v < 2147483648
    · rw [decide_eq_true ⟨h1, h2⟩]
      go_enter Tryd.func58, Tryd.ntmps58
      go_wp2
      go_ret
      exact ⟨rfl, rfl⟩
    · rw [decide_eq_false (fun h => h2 h.2)]
      go_enter Tryd.func58, Tryd.ntmps58
      go_wp2
      go_ret
      exact ⟨rfl, rfl⟩
  · rw [decide_eq_false (fun h => h1 h.1)]
    go_enter Tryd.func58, Tryd.ntmps58
    go_wp2
    go_ret
    exact ⟨rfl, rfl⟩

/-- A coordinate's range. -/
def Co (v : Int) : Prop := -2147483648 < v ∧ v < 2147483648
theorem inR_iff {v : Int} : inR v = true ↔ Co v := by unfold inR Co; simp
def sgC (s : Sg) : List Value := [.int .i64 s.kind] ++ s.v.map (Value.int .i64) ++ [.int .i64 s.w]
/-- A part that lies in eight cells, its numbers in range. -/
def SgOk (s : Sg) : Prop := s.v.length = 6 ∧ ∀ v ∈ s.v, Co v
structure PenOk (p : Pen) : Prop where
  x : Co p.x
  y : Co p.y
  fx : Co p.fx
  fy : Co p.fy
  last : SgOk p.last
def penC (p : Pen) : List Value := [.int .i64 p.x, .int .i64 p.y, .int .i64 p.fx, .int .i64 p.fy] ++ sgC p.last
/-- The pen's box. -/
def Pn (w : World) (q : Nat) (p : Pen) : Prop := w.heap[q]? = some (.cells (penC p).toArray 119 (0, 0))
theorem six {l : List Int} (h : l.length = 6) : ∃ a b c d e f, l = [a, b, c, d, e, f] := by
  match l, h with
  | [a, b, c, d, e, f], _ => exact ⟨a, b, c, d, e, f, rfl⟩

set_option maxHeartbeats 1000000 in
set_option maxRecDepth 100000 in
theorem mirrored_any (p : Pen) (hp : PenOk p) (k : Int) (q : Nat) (w : World) (h : Pn w q p) :
    Calls Tryd.prog 81 #[.pointer (some ⟨q, 0, none⟩), .int .i64 k] w fun e w' => e = .returned (.tuple #[.int .i64 (mirrorS p k).1, .int .i64 (mirrorS p k).2]) ∧ Bel w w' := by
  obtain ⟨x, y, fx, fy, ⟨lk, lv, lw⟩⟩ := p
  obtain ⟨⟨hx1, hx2⟩, ⟨hy1, hy2⟩, _, _, hl6, hlv⟩ := hp
  dsimp only at hx1 hx2 hy1 hy2 hl6 hlv
  obtain ⟨v0, v1, v2, v3, v4, v5, rfl⟩ := six hl6
  have a0 := hlv v0 (by simp)
  have a1 := hlv v1 (by simp)
  have a2 := hlv v2 (by simp)
  have a3 := hlv v3 (by simp)
  unfold Co at a0 a1 a2 a3
  obtain ⟨a01, a02⟩ := a0
  obtain ⟨a11, a12⟩ := a1
  obtain ⟨a21, a22⟩ := a2
  obtain ⟨a31, a32⟩ := a3
  have c0 : w.cell? ⟨q, 0, none⟩ = some (.int .i64 x) := by rw [heap_cell h]; rfl
  have c1 : w.cell? ⟨q, 1, none⟩ = some (.int .i64 y) := by rw [heap_cell h]; rfl
  have c4 : w.cell? ⟨q, 4, none⟩ = some (.int .i64 lk) := by rw [heap_cell h]; rfl
  have c5 : w.cell? ⟨q, 5, none⟩ = some (.int .i64 v0) := by rw [heap_cell h]; rfl
  have c6 : w.cell? ⟨q, 6, none⟩ = some (.int .i64 v1) := by rw [heap_cell h]; rfl
  have c7 : w.cell? ⟨q, 7, none⟩ = some (.int .i64 v2) := by rw [heap_cell h]; rfl
  have c8 : w.cell? ⟨q, 8, none⟩ = some (.int .i64 v3) := by rw [heap_cell h]; rfl
  clear hlv hl6 h
  by_cases hk : lk = k
  · subst hk
    by_cases h4 : lk = 4
    · subst h4
      have hm : mirrorS ⟨x, y, fx, fy, ⟨4, [v0, v1, v2, v3, v4, v5], lw⟩⟩ 4 = (2 * x - v2, 2 * y - v3) := rfl
      rw [hm]
      go_enter Tryd.func81, Tryd.ntmps81
      go_wp2_with fail
      go_quiet (fail)
      go_wp2
      go_ret2
      exact ⟨rfl, ⟨rfl, rfl, rfl, Nat.le_refl _, fun _ _ => rfl⟩⟩
    · have hm : mirrorS ⟨x, y, fx, fy, ⟨lk, [v0, v1, v2, v3, v4, v5], lw⟩⟩ lk = (2 * x - v0, 2 * y - v1) := by unfold mirrorS; rw [if_neg (by simp), if_neg h4]; rfl
      rw [hm]
      have h4' : (lk == 4) = false := by simpa using h4
      clear h4
      go_enter Tryd.func81, Tryd.ntmps81
      go_wp2_with fail
      go_quiet (fail)
      go_wp2
      go_ret2
      exact ⟨rfl, ⟨rfl, rfl, rfl, Nat.le_refl _, fun _ _ => rfl⟩⟩
  · have hm : mirrorS ⟨x, y, fx, fy, ⟨lk, [v0, v1, v2, v3, v4, v5], lw⟩⟩ k = (x, y) := by unfold mirrorS; rw [if_pos hk]
    rw [hm]
    have hk' : (lk != k) = true := by simpa using hk
    clear hk
    go_enter Tryd.func81, Tryd.ntmps81
    go_wp2_with fail
    go_quiet (fail)
    go_wp2
    go_ret2
    exact ⟨rfl, ⟨rfl, rfl, rfl, Nat.le_refl _, fun _ _ => rfl⟩⟩

end Go.Proofs.YtefajplbgmikdaaDoor
