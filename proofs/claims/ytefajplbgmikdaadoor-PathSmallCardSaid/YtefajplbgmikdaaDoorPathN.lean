/-
  The pen's move, joined.
-/
import Derived.Test.YtefajplbgmikdaaDoorPathN1
import Derived.Test.YtefajplbgmikdaaDoorPathN2
import Derived.Test.YtefajplbgmikdaaDoorPathN3
import Derived.Test.YtefajplbgmikdaaDoorPathN4
import Derived.Test.YtefajplbgmikdaaDoorPathN5
namespace Go.Proofs.YtefajplbgmikdaaDoor
open Go.RowKit

theorem move_any (p : Pen) (hp : PenOk p) (s : Sg) (hs : SgOk s) (n : Nat) (hn : (s.kind ≠ 6 → n = 2 ∨ n = 4 ∨ n = 6) ∧ (s.kind = 1 → n = 2)) (q : Nat) (w : World) (h : Pn w q p) :
    Calls Tryd.prog 82 #[.pointer (some ⟨q, 0, none⟩), .agg (sgC s).toArray, .int .i64 n] w fun e w' => e = .returned (.tuple #[]) ∧ Below q w w' ∧ KeepBut q w w' ∧ Pn w' q (moveS p s n) := by
  by_cases h6 : s.kind = 6
  · exact move_close p hp s hs h6 n q w h
  · by_cases h1 : s.kind = 1
    · obtain rfl := hn.2 h1
      exact move_move p hp s hs h1 q w h
    · rcases hn.1 h6 with rfl | rfl | rfl
      · exact move_o2 p hp s hs h1 h6 q w h
      · exact move_o4 p hp s hs h1 h6 q w h
      · exact move_o6 p hp s hs h1 h6 q w h

end Go.Proofs.YtefajplbgmikdaaDoor
