/-
  The reader's letter, whatever letter it is.
-/
import Derived.Test.YtefajplbgmikdaaDoorPathI
namespace Go.Proofs.YtefajplbgmikdaaDoor
open Go.RowKit

theorem rule_move {x : Rl} (h : x ∈ rulesL) (hk : x.kind = 1) : x = ⟨77, 2, 1⟩ := by
  have : ∀ x ∈ rulesL, x.kind = 1 → x = ⟨77, 2, 1⟩ := by decide
  exact this x h hk
theorem rule_close {x : Rl} (h : x ∈ rulesL) (hk : x.kind = 6) : x = ⟨90, 0, 6⟩ := by
  have : ∀ x ∈ rulesL, x.kind = 6 → x = ⟨90, 0, 6⟩ := by decide
  exact this x h hk
theorem letter_any (c : Nat) (hc : c < 256) (more : Bool) (pl en : Int) (hp1 : -4611686018427387904 ≤ pl) (hp2 : pl ≤ 4611686018427387904) (r : Nat) (lv pv : Value) (l : List Tok) (ps : List Part) (hps : ps.length + wt l ≤ 900000000) (w : World) (hr : Rul w) (hst : St w r lv en pv l ps) (hg : 2 < r) :
    Calls Tryd.prog 80 #[.pointer (some ⟨r, 0, none⟩), .int .u8 c, .int .i64 pl, .bool more] w (OncePost w r en (letterS en c pl more l ps)) := by
  by_cases hbad : letterBad c ps
  · exact letter_fails c hc more pl en r lv pv l ps (by omega) w hr hst hbad
  cases hx : ruleOf c with
  | none => exact absurd (.inl hx) hbad
  | some x =>
    have hm := rule_mem hx
    have hnb : ¬ ((ps = [] ∧ x.kind ≠ 1) ∨ (x.kind = 6 ∧ lastKind ps = 6)) := fun h => hbad (.inr ⟨x, hx, h⟩)
    by_cases hps0 : ps = []
    · subst hps0
      have hk1 : x.kind = 1 := by
        by_cases h : x.kind = 1
        · exact h
        · exact absurd (.inl ⟨rfl, h⟩) hnb
      obtain rfl := rule_move hm hk1
      cases more with
      | true => exact letter_move0_more c hc pl en hp1 hp2 r lv pv l (by simpa using hps) w hr hst hx
      | false => exact letter_move0 c hc pl en r lv pv l (by simpa using hps) w hr hst hx hg
    · obtain ⟨ini, z, rfl⟩ : ∃ ini z, ps = ini ++ [z] := ⟨ps.dropLast, ps.getLast hps0, (List.dropLast_concat_getLast hps0).symm⟩
      rw [lastKind_snoc] at hnb
      have hil : ini.length + wt l ≤ 900000000 := by simp at hps; omega
      by_cases hk1 : x.kind = 1
      · obtain rfl := rule_move hm hk1
        cases more with
        | true => exact letter_move_more c hc pl en hp1 hp2 r lv pv l ini z hil w hr hst hx
        | false => exact letter_move c hc pl en r lv pv l ini z hil w hr hst hx hg
      · by_cases hk6 : x.kind = 6
        · obtain rfl := rule_close hm hk6
          have hz : z.r.kind ≠ 6 := fun h => hnb (.inr ⟨rfl, h⟩)
          cases more with
          | true => exact letter_close_more c hc pl en r lv pv l ini z hil w hr hst hx hz
          | false => exact letter_close c hc pl en r lv pv l ini z hil w hr hst hx hz
        · cases more with
          | true => exact letter_other_more c hc pl en hp1 hp2 r lv pv l ini z hil w hr hst x hx hk1 hk6
          | false => exact letter_other c hc pl en r lv pv l ini z hil w hr hst x hx hk1 hk6
end Go.Proofs.YtefajplbgmikdaaDoor
