/-
  The walks of the reference's far, Used and Good.
-/
import Derived.Test.YtefajplbgmikdaaDoorDec
namespace Go.Proofs.YtefajplbgmikdaaDoor
open Go.RowKit

theorem far_any (v : Int) (b : Bool) (hb : inR v = b) (w : World) : Calls Tryd.prog 37 #[.int .i64 v] w fun e w' => e = .returned (.bool (!b)) ∧ w' = w := by
  subst hb
  unfold inR
  by_cases h1 : 2147483648 ≤ v
  · rw [decide_eq_false (by omega)]
    go_enter Tryd.func37, Tryd.ntmps37
    go_wp2
    go_ret
    exact ⟨rfl, rfl⟩
  · by_cases h2 : v ≤ -2147483648
    · rw [decide_eq_false (by omega)]
      go_enter Tryd.func37, Tryd.ntmps37
      go_wp2
      go_ret
      exact ⟨rfl, rfl⟩
    · rw [decide_eq_true (by omega)]
      go_enter Tryd.func37, Tryd.ntmps37
      go_wp2
      go_ret
      exact ⟨rfl, rfl⟩
def usedS (k : Int) : Int := if 1 ≤ k ∧ k ≤ 6 then (countK k : Nat) else -1
theorem used_any (k : Int) (w : World) : Calls Tryd.prog 20 #[.int .i64 k] w fun e w' => e = .returned (.int .i64 (usedS k)) ∧ w' = w := by
  by_cases h1 : k = 1
  · subst h1
    go_enter Tryd.func20, Tryd.ntmps20
    go_wp2
    go_ret
    exact ⟨rfl, rfl⟩
  by_cases h2 : k = 2
  · subst h2
    go_enter Tryd.func20, Tryd.ntmps20
    go_wp2
    go_ret
    exact ⟨rfl, rfl⟩
  by_cases h3 : k = 3
  · subst h3
    go_enter Tryd.func20, Tryd.ntmps20
    go_wp2
    go_ret
    exact ⟨rfl, rfl⟩
  by_cases h4 : k = 4
  · subst h4
    go_enter Tryd.func20, Tryd.ntmps20
    go_wp2
    go_ret
    exact ⟨rfl, rfl⟩
  by_cases h5 : k = 5
  · subst h5
    go_enter Tryd.func20, Tryd.ntmps20
    go_wp2
    go_ret
    exact ⟨rfl, rfl⟩
  by_cases h6 : k = 6
  · subst h6
    go_enter Tryd.func20, Tryd.ntmps20
    go_wp2
    go_ret
    exact ⟨rfl, rfl⟩
  · have hu : usedS k = -1 := by unfold usedS; rw [if_neg (by omega)]
    rw [hu]
    have e1 : (k == 1) = false := by simpa using h1
    have e2 : (k == 2) = false := by simpa using h2
    have e3 : (k == 3) = false := by simpa using h3
    have e4 : (k == 4) = false := by simpa using h4
    have e5 : (k == 5) = false := by simpa using h5
    have e6 : (k == 6) = false := by simpa using h6
    clear h1 h2 h3 h4 h5 h6
    go_enter Tryd.func20, Tryd.ntmps20
    go_wp2
    go_ret
    exact ⟨rfl, rfl⟩

/-- Whether what is left is good, behind a part of kind pk. -/
def restG : List Sg → Int → Bool
  | [], _ => true
  | s :: r, pk => decide (1 ≤ s.kind) && decide (s.kind ≤ 6) && !(decide (s.kind = 6) && decide (pk = 6)) && goodN (countK s.kind) s.v 0 && goodW s && restG r s.kind
theorem restG_eq : ∀ (l : List Sg) (pk : Int), restG l pk = (l.all goodOne && !((match l with | [] => false | s :: _ => decide (s.kind = 6)) && decide (pk = 6)) && noTwo l)
  | [], pk => by simp [restG, noTwo]
  | [s], pk => by
    simp only [restG, noTwo, List.all_cons, List.all_nil, goodOne]
    cases decide (1 ≤ s.kind) <;> cases decide (s.kind ≤ 6) <;> cases decide (s.kind = 6) <;> cases decide (pk = 6) <;> cases goodN (countK s.kind) s.v 0 <;> cases goodW s <;> rfl
  | s :: t :: r, pk => by
    rw [restG, restG_eq (t :: r) s.kind]
    simp only [noTwo, List.all_cons, goodOne]
    generalize (decide (1 ≤ t.kind) && decide (t.kind ≤ 6) && goodN (countK t.kind) t.v 0 && goodW t) = T
    generalize r.all goodOne = R
    generalize noTwo (t :: r) = Z
    generalize goodN (countK s.kind) s.v 0 = G1
    generalize goodW s = G2
    cases decide (1 ≤ s.kind) <;> cases decide (s.kind ≤ 6) <;> cases decide (s.kind = 6) <;> cases decide (pk = 6) <;> cases decide (t.kind = 6) <;> cases T <;> cases R <;> cases Z <;> cases G1 <;> cases G2 <;> rfl
theorem goodS_rest (l : List Sg) : goodS l = (headOk l && decide (l.length ≤ 4096) && restG l 0) := by
  rw [restG_eq]
  unfold goodS
  cases l with
  | nil => rfl
  | cons s r => simp [Bool.and_assoc]
end Go.Proofs.YtefajplbgmikdaaDoor
