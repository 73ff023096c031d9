/-
  The walk of gessokeep.Segs on two rows of the same parts.
-/
import Derived.Test.YtefajplbgmikdaaDoorLawA
import Derived.ChangeKeysEq
import Derived.Laws.StructEq
namespace Go.Proofs.YtefajplbgmikdaaDoor
open Go.RowKit

theorem arr6_eq (v0 v1 v2 v3 v4 v5 : Int) (w : World) : (Op.equalIn 10000 34 (.agg #[.int .i64 v0, .int .i64 v1, .int .i64 v2, .int .i64 v3, .int .i64 v4, .int .i64 v5]) (.agg #[.int .i64 v0, .int .i64 v1, .int .i64 v2, .int .i64 v3, .int .i64 v4, .int .i64 v5])).run Tryd.prog w = .ok true w := by
  have hi := infoInt64
  cases hq : Tryd.prog.info? 2 with
  | none => rw [hq] at hi; cases hi
  | some i =>
    have hc : Tryd.prog.cellsOf 2 = 1 := by kernel_rfl
    have hu := Tryd.underlying2
    rw [show (10000 : Nat) = 9999 + 1 from rfl, run_equalIn_array w 9999 _ _ Tryd.underlying34 hq, hc]
    have h9 : ∀ (a : Int) (V : World), (Op.equalIn 9999 2 (.int .i64 a) (.int .i64 a)).run Tryd.prog V = .ok true V := fun a V => by
      rw [show (9999 : Nat) = 9998 + 1 from rfl, run_equalIn_int V 9998 2 .i64 .i64 a a hu]; simp
    simp [List.range, List.range.loop, Op.eqItems, part, isAgg, run_underlying hu, h9, Sem.run_bind]

set_option maxHeartbeats 4000000 in
set_option maxRecDepth 100000 in
theorem segs_eq (l : List Sg) (hl : ∀ s ∈ l, s.v.length = 6) (hn : l.length < 4611686018427387904) (v1 v2 : Value) (w : World) (h1 : SegRow w w.heap.size v1 l) (h2 : SegRow w w.heap.size v2 l) :
    Calls Tryd.prog 17 #[v1, v2] w fun e w' => e = .returned (.bool true) ∧ Bel w w' := by
  have H1 := Lib.hid h1
  have H2 := Lib.hid h2
  have HL := Lib.hid hl
  obtain ⟨p1, c1, rfl, hc1, _⟩ := h1
  obtain ⟨p2, c2, rfl, hc2, _⟩ := h2
  clear hl
  have hne : ((l.length : Int) != (l.length : Int)) = false := by simp
  go_enter Tryd.func17, Tryd.ntmps17
  go_wp2
  go_loopg [5] l.length (fun gf i wx => ∃ k : Nat, i = .int .i64 k ∧ k ≤ l.length ∧ l.length ≤ k + gf ∧ Bel w wx)
  case atStart => exact ⟨0, rfl, Nat.zero_le _, by omega, Bel.refl _⟩
  case round =>
    obtain ⟨k, rfl, hkl, hkg, hb⟩ := hrel
    have HB := Lib.hid hb
    clear hb
    by_cases hk : k < l.length
    · obtain ⟨gk', rfl⟩ : ∃ g, gk = g + 1 := ⟨gk - 1, by omega⟩
      obtain ⟨s, hs⟩ : ∃ s, l[k]? = some s := ⟨_, List.getElem?_eq_getElem hk⟩
      have h6 := HL.out s (List.mem_of_getElem? hs)
      obtain ⟨sk, sv, sw⟩ := s
      dsimp only at h6
      obtain ⟨v0, v1, v2, v3, v4, v5, rfl⟩ := six h6
      obtain ⟨b1, o1, cc1, he, _, _, q0, q1, q2, q3, q4, q5, q6, q7⟩ := (H1.out.bel HB.out).at hs
      simp only [Value.slice.injEq] at he
      obtain ⟨rfl, _, rfl⟩ := he
      obtain ⟨b2, o2, cc2, he, _, _, r0, r1, r2, r3, r4, r5, r6, r7⟩ := (H2.out.bel HB.out).at hs
      simp only [Value.slice.injEq] at he
      obtain ⟨rfl, _, rfl⟩ := he
      clear hs h6
      have hk1 : (sk != sk) = false := by simp
      have hw1 : (sw != sw) = false := by simp
      have harr := arr6_eq v0 v1 v2 v3 v4 v5
      go_wp2_with fail
      go_quiet (fail)
      go_wp2
      go_roundg gk'
      case measure => omega
      case rel => exact ⟨k + 1, rfl, by omega, by omega, HB.out.drewN _⟩
    · obtain rfl : k = l.length := by omega
      go_wp2
      go_ret
      exact ⟨rfl, HB.out⟩
end Go.Proofs.YtefajplbgmikdaaDoor
