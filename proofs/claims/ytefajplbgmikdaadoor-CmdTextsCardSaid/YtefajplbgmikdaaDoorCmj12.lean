/-
  The walks of only, same, slices.Max and sound.
-/
import Derived.Test.YtefajplbgmikdaaDoorCmj11
import Derived.Test.YtefajplbgmikdaaDoorCmj5
import Derived.Test.YtefajplbgmikdaaDoorCmj7
namespace Go.Proofs.YtefajplbgmikdaaDoor
open Go.RowKit

set_option maxHeartbeats 1000000 in
set_option maxRecDepth 100000 in
theorem only_any (G o : Nat) (kd : Int) (count : Nat) (lv : Value) (l : List Tok) (en : Int) (w : World) (hc2 : w.cell? ⟨G, o + 2, none⟩ = some lv) (hc3 : w.cell? ⟨G, o + 3, none⟩ = some (.int .i64 en)) (hl : TokRow w w.heap.size lv l) (hn : l.length ≤ 1000000000) :
    Calls Tryd.prog 71 #[.pointer (some ⟨G, o, none⟩), .int .i64 kd, .int .i64 count] w fun e w' => Bel w w' ∧ e = .returned (.int .i64 (onlyS kd count en l 0)) := by
  have HL := Lib.hid hl
  have HC2 := Lib.hid hc2
  have HC3 := Lib.hid hc3
  obtain ⟨lp, lc, rfl, hlc, _⟩ := hl
  go_enter Tryd.func71, Tryd.ntmps71
  go_wp2
  clear hc2 hc3
  go_loopg [14] l.length (fun gf s14 wx => ∃ k : Nat, s14 = .int .i64 k ∧ k ≤ l.length ∧ l.length ≤ k + gf ∧ onlyS kd count en l 0 = onlyS kd count en (l.drop k) k ∧ Bel w wx)
  case atStart => exact ⟨0, rfl, Nat.zero_le _, by omega, rfl, Bel.refl w⟩
  case round =>
    obtain ⟨k, rfl, hkl, hkg, hrel, hbl⟩ := hrel
    have HREL := Lib.hid hrel
    have HBL := Lib.hid hbl
    clear hrel hbl
    by_cases hk : k < l.length
    · obtain ⟨gk', rfl⟩ : ∃ g, gk = g + 1 := ⟨gk - 1, by omega⟩
      obtain ⟨t, ht⟩ : ∃ t, l[k]? = some t := ⟨_, List.getElem?_eq_getElem hk⟩
      obtain ⟨b, oo, c, he, _, _, q0, q1, q2, q3⟩ := HL.out.get ht
      simp only [Value.slice.injEq] at he
      obtain ⟨rfl, _, rfl⟩ := he
      replace q0 := HBL.out.cell q0
      replace q1 := HBL.out.cell q1
      replace q2 := HBL.out.cell q2
      replace q3 := HBL.out.cell q3
      have HT : Hid (l.drop k = t :: l.drop (k + 1)) := by
        obtain ⟨hlt, e⟩ := List.getElem?_eq_some_iff.1 ht
        unfold Hid
        rw [← e, List.getElem_cons_drop]
      have HB9 : Hid (Bel w (wr.alloc (.cells #[.int .i64 t.kind, .string ⟨t.s.toArray⟩, .int .i64 t.n, .int .i64 t.place] 106))) := HBL.out.alloc _
      clear ht
      obtain ⟨b1, hb1⟩ : ∃ b1, (t.kind == kd) = b1 := ⟨_, rfl⟩
      have hb1' : (t.kind != kd) = !b1 := by rw [← hb1]; rfl
      cases b1 with
      | false =>
        have HR : Hid (onlyS kd count en l 0 = t.place) := by unfold Hid; rw [HREL.out, HT.out, onlyS, if_pos (.inl (by simpa using hb1))]
        go_wp2
        go_ret
        exact ⟨HB9.out, by rw [HR.out]; rfl⟩
      | true =>
        have HK1 : Hid (t.kind = kd) := by unfold Hid; simpa using hb1
        by_cases hcnt : count ≤ k
        · have HR : Hid (onlyS kd count en l 0 = t.place) := by unfold Hid; rw [HREL.out, HT.out, onlyS, if_pos (.inr hcnt)]
          go_wp2
          go_ret
          exact ⟨HB9.out, by rw [HR.out]; rfl⟩
        · have HR : Hid (onlyS kd count en l 0 = onlyS kd count en (l.drop (k + 1)) (k + 1)) := by
            unfold Hid
            rw [HREL.out, HT.out, onlyS, if_neg (fun e => e.elim (fun h => h HK1.out) hcnt)]
          go_wp2
          go_roundg gk'
          case measure => omega
          case rel => exact ⟨k + 1, rfl, by omega, by omega, HR.out, HB9.out⟩
    · obtain rfl : k = l.length := by omega
      have c2 := HBL.out.cell HC2.out
      have c3 := HBL.out.cell HC3.out
      have HD : Hid (l.drop l.length = []) := List.drop_length
      by_cases hcnt : l.length < count
      · have HR : Hid (onlyS kd count en l 0 = en) := by unfold Hid; rw [HREL.out, HD.out, onlyS, if_pos hcnt]
        go_wp2
        go_ret
        exact ⟨HBL.out, by rw [HR.out]; rfl⟩
      · have HR : Hid (onlyS kd count en l 0 = -1) := by unfold Hid; rw [HREL.out, HD.out, onlyS, if_neg hcnt]
        go_wp2
        go_ret
        exact ⟨HBL.out, by rw [HR.out]; rfl⟩
theorem same_any (a b c d : Int) (ha : -2147483648 < a ∧ a < 2147483648) (hb : -2147483648 < b ∧ b < 2147483648) (hc : -2147483648 < c ∧ c < 2147483648) (hd : -2147483648 < d ∧ d < 2147483648) (w : World) :
    Calls Tryd.prog 95 #[.int .i64 a, .int .i64 b, .int .i64 c, .int .i64 d] w fun e w' => e = .returned (.bool (a * b == c * d)) ∧ w = w' := by
  have hm : ∀ x y : Int, (-2147483648 < x ∧ x < 2147483648) → (-2147483648 < y ∧ y < 2147483648) → IntKind.i64.wrap (x * y) = x * y := by
    intro x y hx hy
    have h1 : x.natAbs < 2147483648 := by omega
    have h2 : y.natAbs < 2147483648 := by omega
    have h3 : (x * y).natAbs < 2147483648 * 2147483648 := by rw [Int.natAbs_mul]; exact Nat.mul_lt_mul'' h1 h2
    exact IntWalk.i64_in _ (by omega)
  have h1 := hm a b ha hb
  have h2 := hm c d hc hd
  go_enter Tryd.func95, Tryd.ntmps95
  go_wp2
  go_ret
  exact ⟨rfl, rfl⟩
/-- A row of numbers that can be read. -/
def NumRow (w : World) (v : Value) (n : List Int) : Prop := ∃ ao c, v = .slice ao n.length c ∧ n.length ≤ c ∧ (n ≠ [] → ∃ b o, ao = some ⟨b, o, none⟩ ∧ ∀ (j : Nat) (x : Int), n[j]? = some x → w.cell? ⟨b, o + j, none⟩ = some (.int .i64 x))
theorem NumRow.bel {w w' : World} {v : Value} {n : List Int} (h : NumRow w v n) (hb : Bel w w') : NumRow w' v n := by
  obtain ⟨ao, c, h1, h2, h3⟩ := h
  exact ⟨ao, c, h1, h2, fun hne => by
    obtain ⟨b, o, h4, h5⟩ := h3 hne
    exact ⟨b, o, h4, fun j x hj => hb.cell (h5 j x hj)⟩⟩
theorem NumRow.at {w : World} {v : Value} {n : List Int} (h : NumRow w v n) {j : Nat} {x : Int} (hj : n[j]? = some x) : ∃ b o c, v = .slice (some ⟨b, o, none⟩) n.length c ∧ n.length ≤ c ∧ w.cell? ⟨b, o + j, none⟩ = some (.int .i64 x) := by
  obtain ⟨ao, c, h1, h2, h3⟩ := h
  obtain ⟨b, o, rfl, h5⟩ := h3 (fun e => by rw [e] at hj; simp at hj)
  exact ⟨b, o, c, h1, h2, h5 j x hj⟩
def anyPos (n : List Int) : Bool := n.any fun x => decide (0 < x)
set_option maxHeartbeats 1000000 in
set_option maxRecDepth 100000 in
theorem max_any (x0 : Int) (n : List Int) (v : Value) (w : World) (hr : NumRow w v (x0 :: n)) (hn : n.length ≤ 1000000) : Calls Tryd.prog 96 #[v] w fun e w' => w = w' ∧ ∃ m : Int, e = .returned (.int .i64 m) ∧ decide (0 < m) = anyPos (x0 :: n) := by
  have HR := Lib.hid hr
  obtain ⟨b, o, c, rfl, hc, h0⟩ := hr.at (j := 0) (x := x0) rfl
  have hlen : (x0 :: n).length = n.length + 1 := rfl
  rw [hlen] at hc ⊢
  rw [Nat.add_zero] at h0
  have HC := Lib.hid hc
  clear hr hc
  go_enter Tryd.func96, Tryd.ntmps96
  go_wp2
  go_loopg [3, 4] n.length (fun gf s3 s4 wx => ∃ (k : Nat) (m : Int), s3 = .int .i64 m ∧ s4 = .int .i64 k ∧ 1 ≤ k ∧ k ≤ n.length + 1 ∧ n.length + 1 ≤ k + gf ∧ decide (0 < m) = anyPos ((x0 :: n).take k) ∧ w = wx)
  case atStart => exact ⟨1, x0, rfl, rfl, by omega, by omega, by omega, by simp [anyPos], rfl⟩
  case round =>
    obtain ⟨k, m, rfl, rfl, hk1, hkl, hkg, hrel, rfl⟩ := hrel
    have HREL := Lib.hid hrel
    clear hrel
    by_cases hk : k < n.length + 1
    · obtain ⟨gk', rfl⟩ : ∃ g, gk = g + 1 := ⟨gk - 1, by omega⟩
      obtain ⟨y, hy⟩ : ∃ y, (x0 :: n)[k]? = some y := ⟨_, List.getElem?_eq_getElem (by simpa using hk)⟩
      obtain ⟨b', o', c', he, _, q0⟩ := HR.out.at hy
      simp only [Value.slice.injEq, Option.some.injEq, Addr.mk.injEq] at he
      obtain ⟨⟨rfl, rfl, _⟩, _, rfl⟩ := he
      have HY := Lib.hid hy
      clear hy
      go_wp2
      go_roundg gk'
      case measure => omega
      case rel =>
        refine ⟨k + 1, max m y, rfl, rfl, by omega, by omega, by omega, ?_, rfl⟩
        have h1 := HREL.out
        have e : anyPos ((x0 :: n).take (k + 1)) = (anyPos ((x0 :: n).take k) || decide (0 < y)) := by
          unfold anyPos
          rw [List.take_add_one, HY.out]
          simp
        rw [e, ← h1, ← Bool.decide_or, decide_eq_decide]
        omega
    · obtain rfl : k = n.length + 1 := by omega
      go_wp2
      go_ret
      refine ⟨rfl, m, rfl, ?_⟩
      rw [HREL.out, List.take_of_length_le (by simp)]
def Sm4 (n : Int) : Prop := -2147483648 < n ∧ n < 2147483648
set_option maxHeartbeats 1000000 in
set_option maxRecDepth 100000 in
theorem sound_any (k : Nat) (n : List Int) (v : Value) (w : World) (hr : NumRow w v n) (hn : n.length ≤ 1000000) (hs : ∀ x ∈ n, Sm4 x) (h2 : k = 2 → n.length = 6) (h12 : k = 12 → n = [] ∨ 2 ≤ n.length) :
    Calls Tryd.prog 67 #[.int .i64 k, v] w fun e w' => Bel w w' ∧ e = .returned (.bool (soundS k n)) := by
  have HR := Lib.hid hr
  by_cases hk2 : k = 2
  · subst hk2
    obtain ⟨n0, n1, n2, n3, n4, n5, rfl⟩ : ∃ a b c d e f, n = [a, b, c, d, e, f] := by
      have := h2 rfl
      match n, this with
      | [a, b, c, d, e, f], _ => exact ⟨a, b, c, d, e, f, rfl⟩
    obtain ⟨b, o, c, rfl, hc, q0⟩ := hr.at (j := 0) (x := n0) rfl
    obtain ⟨_, _, _, he, _, q1⟩ := hr.at (j := 1) (x := n1) rfl
    obtain ⟨_, _, _, he2, _, q2⟩ := hr.at (j := 2) (x := n2) rfl
    obtain ⟨_, _, _, he3, _, q3⟩ := hr.at (j := 3) (x := n3) rfl
    simp only [Value.slice.injEq, Option.some.injEq, Addr.mk.injEq] at he he2 he3
    obtain ⟨⟨rfl, rfl, _⟩, _, rfl⟩ := he
    obtain ⟨⟨rfl, rfl, _⟩, _, rfl⟩ := he2
    obtain ⟨⟨rfl, rfl, _⟩, _, rfl⟩ := he3
    have hsm := fun V => same_any n0 n3 n1 n2 (hs n0 (by simp)) (hs n3 (by simp)) (hs n1 (by simp)) (hs n2 (by simp)) V
    have HSM := Lib.hid hsm
    rw [Nat.add_zero] at q0
    have hlen : [n0, n1, n2, n3, n4, n5].length = 6 := rfl
    rw [hlen] at hc ⊢
    replace q0 : w.drew.cell? _ = _ := q0
    replace q1 : w.drew.cell? _ = _ := q1
    replace q2 : w.drew.cell? _ = _ := q2
    replace q3 : w.drew.cell? _ = _ := q3
    clear hr hs h2 h12 hsm
    go_enter Tryd.func67, Tryd.ntmps67
    go_upto_region 3 with fail
    go_region_law (first
      | (go_simp; go_at_call 95; (with_reducible refine (HSM.out _).mono ?_); rintro e w2 ⟨rfl, rfl⟩))
    all_goals
      go_wp2
      go_ret
      refine ⟨(Bel.refl _).drew, ?_⟩
      show Ending.returned (.bool !(n0 * n3 == n1 * n2)) = _
      congr 2
  · by_cases hk12 : k = 12
    · subst hk12
      cases n with
      | nil =>
        obtain ⟨ao, c, rfl, _⟩ := hr
        rw [show ([] : List Int).length = 0 from rfl]
        clear hs h2 h12
        go_enter Tryd.func67, Tryd.ntmps67
        go_wp2
        go_ret
        exact ⟨Bel.refl _, rfl⟩
      | cons x n =>
        cases n with
        | nil => rcases h12 rfl with h | h <;> simp at h
        | cons y m =>
          obtain ⟨b, o, c, rfl, hc, q0⟩ := hr.at (j := 0) (x := x) rfl
          have hlen : (x :: y :: m).length = m.length + 2 := rfl
          rw [hlen] at hc ⊢
          have htl : NumRow w (.slice (some ⟨b, o + 1, none⟩) (m.length + 1) (c - 1)) (y :: m) := by
            refine ⟨_, _, rfl, by simp; omega, fun _ => ⟨b, o + 1, rfl, fun j z hj => ?_⟩⟩
            obtain ⟨b', o', c', he, _, q⟩ := hr.at (j := j + 1) (x := z) (by simpa using hj)
            simp only [Value.slice.injEq, Option.some.injEq, Addr.mk.injEq] at he
            obtain ⟨⟨rfl, rfl, _⟩, _, rfl⟩ := he
            rw [show o + 1 + j = o + (j + 1) by omega]
            exact q
          have hmax := max_any y m _ w htl (by simp at hn; omega)
          have HMAX := Lib.hid hmax
          have hc1 : ¬ c = 1 := by omega
          have hc2 : m.length + 2 - 1 = m.length + 1 := by omega
          have hc3 : (1 : Int) ≤ (m.length : Int) + 2 := by omega
          clear hr hs h2 h12 hmax htl q0
          go_enter Tryd.func67, Tryd.ntmps67
          go_wp2_with (first
            | (go_at_call 96; (with_reducible refine (HMAX.out).mono ?_); rintro e w2 ⟨rfl, mx, rfl, hmx⟩; have HMX := Lib.hid hmx; clear hmx))
          go_ret
          refine ⟨Bel.refl _, ?_⟩
          show Ending.returned (.bool ((m.length : Int) + 2 == 0 || decide (0 < mx))) = _
          rw [HMX.out]
          have e0 : ((m.length : Int) + 2 == 0) = false := by simp; omega
          rw [e0]
          congr 2
    · have d1 : ((k : Int) == 2) = false := by simp; omega
      have d2 : ((k : Int) == 12) = false := by simp; omega
      have HS : Hid (soundS k n = true) := by unfold Hid soundS; rw [if_neg hk2, if_neg hk12]
      clear hr hs h2 h12 hk2 hk12
      go_enter Tryd.func67, Tryd.ntmps67
      go_wp2
      go_ret
      exact ⟨Bel.refl _, by rw [HS.out]; rfl⟩
end Go.Proofs.YtefajplbgmikdaaDoor

/-
  The walk of good.
-/
namespace Go.Proofs.YtefajplbgmikdaaDoor
open Go.RowKit

theorem spans_count (k n : Nat) (hp : pathK k = false) (h : dashK k = false → n = if wordsK k = [] then countC k else 1) : (spansK k n).length = n := by
  by_cases hd : dashK k = true
  · exact (dash_words hd).2.2 n
  · have hd' : dashK k = false := by simpa using hd
    have hn := h hd'
    by_cases hw : wordsK k = []
    · rw [if_pos hw] at hn
      rw [spans_len k n hw hp hd', hn]
    · rw [if_neg hw] at hn
      have hk3 : k = 5 ∨ k = 9 ∨ k = 10 := by
        unfold wordsK at hw
        by_cases e5 : k = 5
        · exact .inl e5
        · by_cases e9 : k = 9
          · exact .inr (.inl e9)
          · by_cases e10 : k = 10
            · exact .inr (.inr e10)
            · rw [if_neg e5, if_neg e9, if_neg e10] at hw
              exact absurd rfl hw
      rcases hk3 with rfl | rfl | rfl <;> (rw [hn]; rfl)
theorem wordsV_nil {a b c k : Nat} (h : wordsK k = []) : wordsV a b c k = .slice none 0 0 := by
  unfold wordsK at h
  unfold wordsV
  split at h
  · cases h
  · rename_i h5
    split at h
    · cases h
    · rename_i h9
      split at h
      · cases h
      · rename_i h10
        rw [if_neg h5, if_neg h9, if_neg h10]
theorem wordsV_some {a b c k : Nat} (h : wordsK k ≠ []) : ∃ g, wordsV a b c k = .slice (some ⟨g, 0, none⟩) (wordsK k).length (wordsK k).length := by
  unfold wordsK at h ⊢
  unfold wordsV
  by_cases h5 : k = 5
  · rw [if_pos h5, if_pos h5]; exact ⟨a, rfl⟩
  · rw [if_neg h5, if_neg h5]
    by_cases h9 : k = 9
    · rw [if_pos h9, if_pos h9]; exact ⟨b, rfl⟩
    · rw [if_neg h9, if_neg h9]
      by_cases h10 : k = 10
      · rw [if_pos h10, if_pos h10]; exact ⟨c, rfl⟩
      · rw [if_neg h5, if_neg h9, if_neg h10] at h
        exact absurd rfl h
theorem eq_nil (w : World) : Sem.run Tryd.prog (binOp .eql 44 (.slice none 0 0) (.slice none 0 0)) w = .ok (.bool true) w := by kernel_rfl
theorem eq_some (g n m : Nat) (w : World) : Sem.run Tryd.prog (binOp .eql 44 (.slice (some ⟨g, 0, none⟩) n m) (.slice none 0 0)) w = .ok (.bool false) w := by kernel_rfl
/-- A box of what a command is named, and has. -/
def KBox (w : World) (KB a b c k : Nat) : Prop := w.heap[KB]? = some (.cells #[.string ⟨(nameK k).toArray⟩, .int .i64 (countC k), wordsV a b c k, .bool (pathK k), .bool (dashK k)] 78 (0, 0)) ∧ Wrd w a b c
theorem kbox_new {W w2 : World} {a b c k : Nat} {wp : Option Addr} {wl wm : Nat} (hb : Bel W w2) (hwrd : Wrd w2 a b c) (hwv : wordsV a b c k = .slice wp wl wm) :
    KBox (w2.alloc (.cells #[.string ⟨(nameK k).toArray⟩, .int .i64 (countC k), .slice wp wl wm, .bool (pathK k), .bool (dashK k)] 78)) w2.heap.size a b c k ∧ Bel W (w2.alloc (.cells #[.string ⟨(nameK k).toArray⟩, .int .i64 (countC k), .slice wp wl wm, .bool (pathK k), .bool (dashK k)] 78)) := by
  refine ⟨⟨?_, hwrd.bel ((Bel.refl w2).alloc _)⟩, hb.alloc _⟩
  rw [hwv]
  exact heap_alloc_new _ _
theorem kbox_set {W w2 : World} {KB a b c k : Nat} {wp : Option Addr} {wl wm : Nat} {cs : Array Value} (hb : Bel W w2) (hKB : W.heap.size ≤ KB) (hcs : cs.size = 5) (hz : w2.heap[KB]? = some (.cells cs 78 (0, 0))) (hwrd : Wrd w2 a b c) (hwv : wordsV a b c k = .slice wp wl wm) :
    KBox (((((w2.setCell ⟨KB, 0, none⟩ (.string ⟨(nameK k).toArray⟩)).setCell ⟨KB, 1, none⟩ (.int .i64 (countC k))).setCell ⟨KB, 2, none⟩ (.slice wp wl wm)).setCell ⟨KB, 3, none⟩ (.bool (pathK k))).setCell ⟨KB, 4, none⟩ (.bool (dashK k))) KB a b c k ∧
      Bel W (((((w2.setCell ⟨KB, 0, none⟩ (.string ⟨(nameK k).toArray⟩)).setCell ⟨KB, 1, none⟩ (.int .i64 (countC k))).setCell ⟨KB, 2, none⟩ (.slice wp wl wm)).setCell ⟨KB, 3, none⟩ (.bool (pathK k))).setCell ⟨KB, 4, none⟩ (.bool (dashK k))) := by
  obtain ⟨z0, z1, z2, z3, z4, rfl⟩ : ∃ z0 z1 z2 z3 z4, cs = #[z0, z1, z2, z3, z4] := by
    match cs, hcs with
    | ⟨[a, b, c, d, e]⟩, _ => exact ⟨a, b, c, d, e, rfl⟩
  have h5 := heap_set (heap_set (heap_set (heap_set (heap_set hz 0 (.string ⟨(nameK k).toArray⟩)) 1 (.int .i64 (countC k))) 2 (.slice wp wl wm)) 3 (.bool (pathK k))) 4 (.bool (dashK k))
  have hne : ∀ {x : Nat} {cx : Array Value}, w2.heap[x]? = some (.cells cx 9 (0, 0)) → x ≠ KB := by
    rintro x cx hx rfl
    rw [hz] at hx
    cases hx
  have hk : ∀ {x : Nat} {cx : Array Value}, w2.heap[x]? = some (.cells cx 9 (0, 0)) → (((((w2.setCell ⟨KB, 0, none⟩ (.string ⟨(nameK k).toArray⟩)).setCell ⟨KB, 1, none⟩ (.int .i64 (countC k))).setCell ⟨KB, 2, none⟩ (.slice wp wl wm)).setCell ⟨KB, 3, none⟩ (.bool (pathK k))).setCell ⟨KB, 4, none⟩ (.bool (dashK k))).heap[x]? = some (.cells cx 9 (0, 0)) := by
    intro x cx hx
    have := hne hx
    rw [Below.heap_setCell _ _ _ _ this, Below.heap_setCell _ _ _ _ this, Below.heap_setCell _ _ _ _ this, Below.heap_setCell _ _ _ _ this, Below.heap_setCell _ _ _ _ this]
    exact hx
  refine ⟨⟨?_, hk hwrd.a, hk hwrd.b, hk hwrd.c⟩, ((((hb.set hKB _).set hKB _).set hKB _).set hKB _).set hKB _⟩
  rw [hwv]
  exact h5
set_option maxHeartbeats 2000000 in
set_option maxRecDepth 100000 in
theorem good_one (c : Cm) (first : Bool) (nv pv : Value) (w : World) (hn : NumRow w nv c.n) (hnl : c.n.length ≤ 1000) (hp : SegRow w w.heap.size pv c.path) (h6 : ∀ s ∈ c.path, s.v.length = 6) (hpl : c.path.length ≤ 1000000000) :
    Calls Tryd.prog 47 #[.agg #[.int .i64 c.kind, nv, pv, .int .i64 c.place], .bool first] w fun e w' => Bel w w' ∧ e = .returned (.bool (goodK first c)) := by
  obtain ⟨kind, n, path, place⟩ := c
  dsimp only at hn hnl hp h6 hpl
  have HN := Lib.hid hn
  have HP := Lib.hid hp
  have HNL := Lib.hid hnl
  obtain ⟨na, nc, rfl, _⟩ := hn
  obtain ⟨pa, pc, rfl, _⟩ := hp
  obtain ⟨W, hW⟩ : ∃ W, w.alloc (.cells #[.int .i64 kind, .slice na n.length nc, .slice pa path.length pc, .int .i64 place] 73) = W := ⟨_, rfl⟩
  have HBX : Hid (W.heap[w.heap.size]? = some (.cells #[.int .i64 kind, .slice na n.length nc, .slice pa path.length pc, .int .i64 place] 73 (0, 0))) := hW ▸ heap_alloc_new _ _
  have HBW : Hid (Bel w W) := hW ▸ (Bel.refl w).alloc _
  have c0 : W.cell? ⟨w.heap.size, 0, none⟩ = some (.int .i64 kind) := by rw [heap_cell HBX.out]; rfl
  have c1 : W.cell? ⟨w.heap.size, 1, none⟩ = some (.slice na n.length nc) := by rw [heap_cell HBX.out]; rfl
  have c2 : W.cell? ⟨w.heap.size, 2, none⟩ = some (.slice pa path.length pc) := by rw [heap_cell HBX.out]; rfl
  obtain ⟨d1, hd1⟩ : ∃ d1, decide (kind < 1) = d1 := ⟨_, rfl⟩
  obtain ⟨d2, hd2⟩ : ∃ d2, decide (15 < kind) = d2 := ⟨_, rfl⟩
  obtain ⟨d3, hd3⟩ : ∃ d3, (kind == 1) = d3 := ⟨_, rfl⟩
  go_enter Tryd.func47, Tryd.ntmps47
  cases d1 with
  | true =>
    have HR : Hid (goodK first ⟨kind, n, path, place⟩ = false) := by unfold Hid goodK; rw [if_pos (.inl (of_decide_eq_true hd1))]
    go_wp2
    go_ret
    exact ⟨HBW.out, by rw [HR.out]; rfl⟩
  | false =>
    cases d2 with
    | true =>
      have HR : Hid (goodK first ⟨kind, n, path, place⟩ = false) := by unfold Hid goodK; rw [if_pos (.inr (.inl (of_decide_eq_true hd2)))]
      go_wp2
      go_ret
      exact ⟨HBW.out, by rw [HR.out]; rfl⟩
    | false =>
      have hk1 : 1 ≤ kind := by have := of_decide_eq_false hd1; omega
      have hk2 : kind ≤ 15 := by have := of_decide_eq_false hd2; omega
      have hd3' : decide (kind = 1) = d3 := by rw [← hd3]; cases h : (kind == 1) <;> simp at h ⊢ <;> exact h
      by_cases hdf : d3 = first
      · subst hdf
        obtain ⟨k, rfl⟩ : ∃ k : Nat, kind = k := ⟨kind.toNat, by omega⟩
        have hk16 : k < 16 := by omega
        have hxor : (d3 != d3) = false := by cases d3 <;> rfl
        go_upto_region 4 with fail
        go_cut [6] from 9 to 114 (fun s6 wx => ∃ KB a b c, s6 = .pointer (some ⟨KB, 0, none⟩) ∧ KBox wx KB a b c k ∧ Bel W wx)
        case first =>
          have e0 : W.drew.cell? ⟨w.heap.size, 0, none⟩ = some (.int .i64 k) := c0
          have e4 : ∀ o, (W.alloc o).cell? ⟨w.heap.size, 0, none⟩ = some (.int .i64 k) := fun o => ((Bel.refl W).alloc o).cell c0
          have e1 : ∀ o, (W.alloc o).drew.cell? ⟨w.heap.size, 0, none⟩ = some (.int .i64 k) := e4
          have e5 : ∀ o, (W.alloc o).drew.heap[W.heap.size]? = some o := fun o => heap_alloc_new W o
          go_region_law (first
            | (go_simp; go_at_call 40; (with_reducible refine (kinds_any _).mono ?_); rintro e w2 ⟨hb2, a, b, c', rfl, hwrd⟩; have hix := kind_at a b c' k hk16; (obtain ⟨wp, wl, wm, hwv⟩ := wordsV_form a b c' k); rw [hwv] at hix; (first
                | (have e2 := hb2.cell e0; have e3 : ∀ o, (w2.alloc o).cell? ⟨w.heap.size, 0, none⟩ = some (.int .i64 k) := fun o => ((Bel.refl w2).alloc o).cell e2)
                | (have e2 := hb2.cell (e1 _); have hz := hb2.heap (e5 _); have z0 := heap_cell hz 0; have z1 := heap_cell hz 1; have z2 := heap_cell hz 2; have z3 := heap_cell hz 3; have z4 := heap_cell hz 4; have zf := heap_frozen hz)); generalize (kindsV a b c').toArray = KA at hix ⊢))
          all_goals
            go_wp2
            go_meet
            first
              | (have h9 := kbox_new (W := W) ((Bel.refl W).drew.trans hb2) hwrd hwv; exact ⟨_, _, _, _, rfl, h9.1, h9.2⟩)
              | (have h9 := kbox_set (W := W) (((Bel.refl W).alloc _).drew.trans hb2) (Nat.le_refl _) rfl hz hwrd hwv; exact ⟨_, _, _, _, rfl, h9.1, h9.2⟩)
        case rest =>
        obtain ⟨KB, a, b, c, rfl, hkb, hbk⟩ := hcut
        have HKB := Lib.hid hkb
        have HBK := Lib.hid hbk
        have y0 := hbk.cell c0
        have y1 := hbk.cell c1
        have y2 := hbk.cell c2
        have z1 : wc.cell? ⟨KB, 1, none⟩ = some (.int .i64 (countC k)) := by rw [heap_cell hkb.1]; rfl
        have z2 : wc.cell? ⟨KB, 2, none⟩ = some (wordsV a b c k) := by rw [heap_cell hkb.1]; rfl
        have z3 : wc.cell? ⟨KB, 3, none⟩ = some (.bool (pathK k)) := by rw [heap_cell hkb.1]; rfl
        have z4 : wc.cell? ⟨KB, 4, none⟩ = some (.bool (dashK k)) := by rw [heap_cell hkb.1]; rfl
        have HGK : Hid (goodK d3 ⟨k, n, path, place⟩ = if pathK k = true then decide (n = []) && goodS path else if path ≠ [] then false else if dashK k = true ∧ 0 < n.length ∧ (n.length < 3 ∨ n.length % 2 = 0 ∨ 17 < n.length) then false else if dashK k = false ∧ n.length ≠ (if wordsK k = [] then countC k else 1) then false else ((spansK k n.length).zip n).all (fun p => decide (p.1.1 ≤ p.2) && decide (p.2 ≤ p.1.2)) && soundS k n) := by
          unfold Hid goodK
          rw [if_neg (by dsimp only; rw [hd3']; intro e; rcases e with e | e | e; omega; omega; exact e rfl)]
          dsimp only
          rw [Int.toNat_natCast]
        clear hkb hbk c0 c1 c2 hd1 hd2 hd3 hd3' hxor
        go_at_K
        go_step
        apply wp_seq_k
        intro _ _
        go_cut [] from 31 to 114 (fun wx => wc = wx ∧ pathK k = false ∧ path = [] ∧ ¬ (dashK k = true ∧ 0 < n.length ∧ (n.length < 3 ∨ n.length % 2 = 0 ∨ 17 < n.length)) ∧ ¬ (dashK k = false ∧ n.length ≠ (if wordsK k = [] then countC k else 1)))
        case first =>
          cases hpk : pathK k with
          | true =>
            rw [hpk] at z3
            have HPK := Lib.hid hpk
            have HG : Hid (goodK d3 ⟨k, n, path, place⟩ = (decide (n = []) && goodS path)) := by unfold Hid; rw [HGK.out, if_pos hpk]
            obtain ⟨b0, hb0⟩ : ∃ b0, ((n.length : Int) == 0) = b0 := ⟨_, rfl⟩
            have hb0' : decide (n = []) = b0 := by
              rw [← hb0]
              cases n with
              | nil => rfl
              | cons x n => simp; omega
            rw [hb0'] at HG
            have HGA := Lib.hid (goodAll_any path h6 (by omega) _ wc ((HP.out.below (Below.mono (HBW.out.trans HBK.out) (Nat.le_refl _))).mono (HBW.out.trans HBK.out).size))
            clear hb0' hpk
            cases b0 with
            | false =>
              go_wp2
              go_ret
              exact ⟨HBW.out.trans HBK.out, by rw [HG.out]; rfl⟩
            | true =>
              go_wp2_with (first
                | (go_at_call 15; (with_reducible refine (HGA.out).mono ?_); rintro e w3 ⟨rfl, hb3⟩; have HB3 := Lib.hid hb3; clear hb3))
              go_ret
              exact ⟨(HBW.out.trans HBK.out).trans HB3.out, by rw [HG.out]; rfl⟩
          | false =>
            rw [hpk] at z3
            have HPK := Lib.hid hpk
            have HG : Hid (goodK d3 ⟨k, n, path, place⟩ = if path ≠ [] then false else if dashK k = true ∧ 0 < n.length ∧ (n.length < 3 ∨ n.length % 2 = 0 ∨ 17 < n.length) then false else if dashK k = false ∧ n.length ≠ (if wordsK k = [] then countC k else 1) then false else ((spansK k n.length).zip n).all (fun p => decide (p.1.1 ≤ p.2) && decide (p.2 ≤ p.1.2)) && soundS k n) := by unfold Hid; rw [HGK.out, if_neg (by rw [hpk]; simp)]
            clear hpk
            by_cases hp0 : 0 < path.length
            · have HR : Hid (goodK d3 ⟨k, n, path, place⟩ = false) := by unfold Hid; rw [HG.out, if_pos (List.length_pos_iff.1 hp0)]
              go_wp2
              go_ret
              exact ⟨HBW.out.trans HBK.out, by rw [HR.out]; rfl⟩
            · have hpn : path = [] := List.eq_nil_of_length_eq_zero (by omega)
              have HG2 : Hid (goodK d3 ⟨k, n, path, place⟩ = if dashK k = true ∧ 0 < n.length ∧ (n.length < 3 ∨ n.length % 2 = 0 ∨ 17 < n.length) then false else if dashK k = false ∧ n.length ≠ (if wordsK k = [] then countC k else 1) then false else ((spansK k n.length).zip n).all (fun p => decide (p.1.1 ≤ p.2) && decide (p.2 ≤ p.1.2)) && soundS k n) := by unfold Hid; rw [HG.out, if_neg (by simp [hpn])]
              have HPN := Lib.hid hpn
              clear hpn
              cases hdk : dashK k with
              | true =>
                rw [hdk] at z4
                have HDK := Lib.hid hdk
                clear hdk
                by_cases h0 : 0 < n.length
                · by_cases h3 : n.length < 3
                  · have HR : Hid (goodK d3 ⟨k, n, path, place⟩ = false) := by unfold Hid; rw [HG2.out, if_pos ⟨HDK.out, h0, .inl h3⟩]
                    go_wp2
                    go_ret
                    exact ⟨HBW.out.trans HBK.out, by rw [HR.out]; rfl⟩
                  · by_cases he : n.length % 2 = 0
                    · have HR : Hid (goodK d3 ⟨k, n, path, place⟩ = false) := by unfold Hid; rw [HG2.out, if_pos ⟨HDK.out, h0, .inr (.inl he)⟩]
                      have e2 : ((n.length : Int) % 2 == 0) = true := by simp; omega
                      go_wp2
                      go_ret
                      exact ⟨HBW.out.trans HBK.out, by rw [HR.out]; rfl⟩
                    · have e2 : ((n.length : Int) % 2 == 0) = false := by simp; omega
                      have e2' : ¬ ((n.length : Int) % 2 = 0) := by omega
                      by_cases h17 : 17 < n.length
                      · have HR : Hid (goodK d3 ⟨k, n, path, place⟩ = false) := by unfold Hid; rw [HG2.out, if_pos ⟨HDK.out, h0, .inr (.inr h17)⟩]
                        skip
                        go_wp2
                        go_ret
                        exact ⟨HBW.out.trans HBK.out, by rw [HR.out]; rfl⟩
                      · have HE := Lib.hid he
                        have H17 := Lib.hid h17
                        clear he
                        go_wp2
                        go_meet
                        exact ⟨rfl, HPK.out, HPN.out, fun e => e.2.2.elim (fun h => h3 h) (fun h => h.elim HE.out H17.out), fun e => by rw [HDK.out] at e; cases e.1⟩
                · go_wp2
                  go_meet
                  exact ⟨rfl, HPK.out, HPN.out, fun e => h0 e.2.1, fun e => by rw [HDK.out] at e; cases e.1⟩
              | false =>
                rw [hdk] at z4
                have HDK := Lib.hid hdk
                have hnd : ¬ (dashK k = true ∧ 0 < n.length ∧ (n.length < 3 ∨ n.length % 2 = 0 ∨ 17 < n.length)) := fun e => by rw [hdk] at e; cases e.1
                have HG3 : Hid (goodK d3 ⟨k, n, path, place⟩ = if dashK k = false ∧ n.length ≠ (if wordsK k = [] then countC k else 1) then false else ((spansK k n.length).zip n).all (fun p => decide (p.1.1 ≤ p.2) && decide (p.2 ≤ p.1.2)) && soundS k n) := by unfold Hid; rw [HG2.out, if_neg hnd]
                have HND := Lib.hid hnd
                have hq1 := eq_nil
                have hq2 := eq_some
                clear hdk hnd
                by_cases hw : wordsK k = []
                · have hwv := wordsV_nil (a := a) (b := b) (c := c) hw
                  rw [hwv] at z2
                  by_cases hc : n.length = countC k
                  · have e1 : ((n.length : Int) == (countC k : Int)) = true := by simp; omega
                    have e2 : ((n.length : Int) != (countC k : Int)) = false := by simp; omega
                    have HC := Lib.hid hc
                    have HW := Lib.hid hw
                    clear hc hw hwv
                    go_wp2
                    go_meet
                    exact ⟨rfl, HPK.out, HPN.out, HND.out, fun e => e.2 (by rw [if_pos HW.out]; exact HC.out)⟩
                  · have HR : Hid (goodK d3 ⟨k, n, path, place⟩ = false) := by unfold Hid; rw [HG3.out, if_pos ⟨HDK.out, by rw [if_pos hw]; exact hc⟩]
                    have e1 : ((n.length : Int) == (countC k : Int)) = false := by simp; omega
                    have e2 : ((n.length : Int) != (countC k : Int)) = true := by simp; omega
                    clear hw hwv
                    go_wp2
                    go_ret
                    exact ⟨HBW.out.trans HBK.out, by rw [HR.out]; rfl⟩
                · obtain ⟨wg, hwv⟩ := wordsV_some (a := a) (b := b) (c := c) hw
                  rw [hwv] at z2
                  by_cases hc : n.length = 1
                  · have HC := Lib.hid hc
                    have HW := Lib.hid hw
                    have e1 : ((n.length : Int) == 1) = true := by simp; omega
                    have e2 : ((n.length : Int) != 1) = false := by simp; omega
                    clear hc hw hwv
                    go_wp2
                    go_meet
                    exact ⟨rfl, HPK.out, HPN.out, HND.out, fun e => e.2 (by rw [if_neg HW.out]; exact HC.out)⟩
                  · have HR : Hid (goodK d3 ⟨k, n, path, place⟩ = false) := by unfold Hid; rw [HG3.out, if_pos ⟨HDK.out, by rw [if_neg hw]; exact hc⟩]
                    have e1 : ((n.length : Int) == 1) = false := by simp; omega
                    have e2 : ((n.length : Int) != 1) = true := by simp; omega
                    clear hw hwv
                    go_wp2
                    go_ret
                    exact ⟨HBW.out.trans HBK.out, by rw [HR.out]; rfl⟩
        case rest =>
          obtain ⟨rfl, hpk, hpn, hnd, hnc⟩ := hcut
          have hlen : (spansK k n.length).length = n.length := spans_count k n.length hpk (fun hd => by
            by_cases e : n.length = if wordsK k = [] then countC k else 1
            · exact e
            · exact absurd ⟨hd, e⟩ hnc)
          have HG : Hid (goodK d3 ⟨k, n, path, place⟩ = (((spansK k n.length).zip n).all (fun p => decide (p.1.1 ≤ p.2) && decide (p.2 ≤ p.1.2)) && soundS k n)) := by
            unfold Hid
            rw [HGK.out, if_neg (by rw [hpk]; simp), if_neg (by simp [hpn]), if_neg hnd, if_neg hnc]
          have H2 : Hid (k = 2 → n.length = 6) := fun e => by
            subst e
            by_cases h : n.length = 6
            · exact h
            · exact absurd ⟨rfl, h⟩ hnc
          have H12 : Hid (k = 12 → n = [] ∨ 2 ≤ n.length) := fun e => by
            subst e
            cases n with
            | nil => exact .inl rfl
            | cons x n =>
              right
              by_cases h : 2 ≤ (x :: n).length
              · exact h
              · exact absurd ⟨rfl, by simp, .inl (by omega)⟩ hnd
          have HLEN := Lib.hid hlen
          have HPK := Lib.hid hpk
          clear hpk hpn hnd hnc hlen z1 z2 z3 z4 y2 HGK
          go_wp2_with (first
            | (go_at_call 66; (with_reducible refine (spans_any k (by omega) n.length hnl _).mono ?_); rintro e w2 ⟨hb2, sv, rfl, hsp⟩; have HB2 := Lib.hid hb2; have HS2 := Lib.hid hsp; (obtain ⟨sa, sc, rfl, hsc, _⟩ := hsp); rw [HLEN.out]; clear hb2 hsc))
          go_loopg [86] n.length (fun gf s86 wx => ∃ j : Nat, s86 = .int .i64 j ∧ j ≤ n.length ∧ n.length ≤ j + gf ∧ ((spansK k n.length).zip n).all (fun p => decide (p.1.1 ≤ p.2) && decide (p.2 ≤ p.1.2)) = (((spansK k n.length).zip n).drop j).all (fun p => decide (p.1.1 ≤ p.2) && decide (p.2 ≤ p.1.2)) ∧ Bel w2 wx)
          case atStart => exact ⟨0, rfl, Nat.zero_le _, by omega, rfl, Bel.refl _⟩
          case round =>
            obtain ⟨j, rfl, hjl, hjg, hrel, hbl⟩ := hrel
            have HREL := Lib.hid hrel
            have HBL := Lib.hid hbl
            have HBA := Lib.hid (HB2.out.trans hbl)
            clear hrel hbl
            by_cases hj : j < n.length
            · obtain ⟨gk', rfl⟩ : ∃ g, gk = g + 1 := ⟨gk - 1, by omega⟩
              obtain ⟨x, hx⟩ : ∃ x, n[j]? = some x := ⟨_, List.getElem?_eq_getElem hj⟩
              obtain ⟨s, hs⟩ : ∃ s, (spansK k n.length)[j]? = some s := ⟨_, List.getElem?_eq_getElem (by rw [HLEN.out]; exact hj)⟩
              have HZ : Hid ((((spansK k n.length).zip n).drop j).all (fun p => decide (p.1.1 ≤ p.2) && decide (p.2 ≤ p.1.2)) = ((decide (s.1 ≤ x) && decide (x ≤ s.2)) && (((spansK k n.length).zip n).drop (j + 1)).all (fun p => decide (p.1.1 ≤ p.2) && decide (p.2 ≤ p.1.2)))) := by
                have hz : ((spansK k n.length).zip n)[j]? = some (s, x) := by rw [List.getElem?_zip_eq_some]; exact ⟨hs, hx⟩
                obtain ⟨hlt, e⟩ := List.getElem?_eq_some_iff.1 hz
                unfold Hid
                rw [List.drop_eq_getElem_cons hlt, e, List.all_cons]
              obtain ⟨nb, no, nc', he, _, q0⟩ := HN.out.at hx
              simp only [Value.slice.injEq] at he
              obtain ⟨rfl, _, rfl⟩ := he
              obtain ⟨sa', sc', he2, _, h3⟩ := HS2.out
              obtain ⟨g, hg, cs, hgc, hcell⟩ := h3 (fun e => by rw [e] at hs; simp at hs)
              simp only [Value.slice.injEq] at he2
              obtain ⟨rfl, _, rfl⟩ := he2
              subst hg
              have s0 : wr.cell? ⟨g, j * 2, none⟩ = some (.int .i64 s.1) := HBL.out.cell (by rw [heap_cell hgc]; exact (hcell j s hs).1)
              have s1 : wr.cell? ⟨g, j * 2 + 1, none⟩ = some (.int .i64 s.2) := HBL.out.cell (by rw [heap_cell hgc]; exact (hcell j s hs).2)
              have x0 : wr.cell? ⟨nb, no + j, none⟩ = some (.int .i64 x) := HBA.out.cell ((HBW.out.trans HBK.out).cell q0)
              have x1 := HBA.out.cell y1
              obtain ⟨V, hV⟩ : ∃ V, wr.alloc (.cells #[.int .i64 s.1, .int .i64 s.2] 131) = V := ⟨_, rfl⟩
              have hWV : Bel wr V := hV ▸ (Bel.refl wr).alloc _
              have hTV : V.heap[wr.heap.size]? = some (.cells #[.int .i64 s.1, .int .i64 s.2] 131 (0, 0)) := hV ▸ heap_alloc_new _ _
              have v0 : V.cell? ⟨wr.heap.size, 0, none⟩ = some (.int .i64 s.1) := by rw [heap_cell hTV]; rfl
              have v1 : V.cell? ⟨wr.heap.size, 1, none⟩ = some (.int .i64 s.2) := by rw [heap_cell hTV]; rfl
              have v2 := hWV.cell x0
              have v3 := hWV.cell x1
              have HBV := Lib.hid hWV
              clear hWV hTV hx hs hgc hcell h3 q0
              obtain ⟨b1, hb1⟩ : ∃ b1, decide (x < s.1) = b1 := ⟨_, rfl⟩
              obtain ⟨b2, hb2⟩ : ∃ b2, decide (s.2 < x) = b2 := ⟨_, rfl⟩
              have HB1 := Lib.hid hb1
              have HB22 := Lib.hid hb2
              go_upto_region 18 with fail
              cases b1 with
              | true =>
                have HR : Hid (goodK d3 ⟨k, n, path, place⟩ = false) := by
                  have := of_decide_eq_true HB1.out
                  unfold Hid
                  rw [HG.out, HREL.out, HZ.out, decide_eq_false (show ¬ s.1 ≤ x by omega)]
                  rfl
                go_quiet (fail)
                go_wp2
                go_ret
                exact ⟨((((HBW.out.trans HBK.out).trans HBA.out).trans HBV.out).drewN _), by rw [HR.out]; rfl⟩
              | false =>
                cases b2 with
                | true =>
                  have HR : Hid (goodK d3 ⟨k, n, path, place⟩ = false) := by
                    have := of_decide_eq_true HB22.out
                    unfold Hid
                    rw [HG.out, HREL.out, HZ.out, decide_eq_false (show ¬ x ≤ s.2 by omega), Bool.and_false, Bool.false_and, Bool.false_and]
                  go_quiet (fail)
                  go_wp2
                  go_ret
                  exact ⟨((((HBW.out.trans HBK.out).trans HBA.out).trans HBV.out).drewN _), by rw [HR.out]; rfl⟩
                | false =>
                  have HR : Hid (((spansK k n.length).zip n).all (fun p => decide (p.1.1 ≤ p.2) && decide (p.2 ≤ p.1.2)) = (((spansK k n.length).zip n).drop (j + 1)).all (fun p => decide (p.1.1 ≤ p.2) && decide (p.2 ≤ p.1.2))) := by
                    have h1 := of_decide_eq_false HB1.out
                    have h2 := of_decide_eq_false HB22.out
                    unfold Hid
                    rw [HREL.out, HZ.out, decide_eq_true (show s.1 ≤ x by omega), decide_eq_true (show x ≤ s.2 by omega)]
                    rfl
                  go_quiet (fail)
                  go_wp2
                  go_roundg gk'
                  case measure => omega
                  case rel => exact ⟨j + 1, rfl, by omega, by omega, HR.out, (HBL.out.trans HBV.out).drewN _⟩
            · obtain rfl : j = n.length := by omega
              have hall : ((spansK k n.length).zip n).all (fun p => decide (p.1.1 ≤ p.2) && decide (p.2 ≤ p.1.2)) = true := by
                rw [HREL.out, List.drop_of_length_le (by rw [List.length_zip]; omega)]
                rfl
              have HR : Hid (goodK d3 ⟨k, n, path, place⟩ = soundS k n) := by unfold Hid; rw [HG.out, hall]; rfl
              have hsm := zip_in HLEN.out (spans_in k _) hall
              have y0' := HBA.out.cell y0
              have y1' := HBA.out.cell y1
              have HSD := Lib.hid (sound_any k n _ wr (HN.out.bel ((HBW.out.trans HBK.out).trans HBA.out)) (by omega) hsm H2.out H12.out)
              clear hall hsm
              go_wp2_with (first
                | (go_at_call 67; (with_reducible refine (HSD.out).mono ?_); rintro e w3 ⟨hb3, rfl⟩; have HB3 := Lib.hid hb3; clear hb3))
              go_ret
              exact ⟨(((HBW.out.trans HBK.out).trans HBA.out).trans HB3.out), by rw [HR.out]; rfl⟩
      · have HR : Hid (goodK first ⟨kind, n, path, place⟩ = false) := by unfold Hid goodK; rw [if_pos (.inr (.inr (by rw [hd3']; exact hdf)))]
        cases d3 with
        | false =>
          cases first with
          | false => exact absurd rfl hdf
          | true =>
            go_wp2
            go_ret
            exact ⟨HBW.out, by rw [HR.out]; rfl⟩
        | true =>
          cases first with
          | true => exact absurd rfl hdf
          | false =>
            go_wp2
            go_ret
            exact ⟨HBW.out, by rw [HR.out]; rfl⟩
end Go.Proofs.YtefajplbgmikdaaDoor

/-
  The walk of Good; rows of commands.
-/
namespace Go.Proofs.YtefajplbgmikdaaDoor
open Go.RowKit

/-- A row of commands that can be read. -/
def CmdRow (w : World) (v : Value) (l : List Cm) : Prop :=
  ∃ p cp, v = .slice p l.length cp ∧ l.length ≤ cp ∧ ∀ (i : Nat) (c : Cm), l[i]? = some c → ∃ b o nv pv, p = some ⟨b, o, none⟩ ∧
    (w.cell? ⟨b, o + i * 4, none⟩ = some (.int .i64 c.kind) ∧ w.cell? ⟨b, o + i * 4 + 1, none⟩ = some nv ∧ w.cell? ⟨b, o + i * 4 + 2, none⟩ = some pv ∧ w.cell? ⟨b, o + i * 4 + 3, none⟩ = some (.int .i64 c.place)) ∧
    NumRow w nv c.n ∧ SegRow w w.heap.size pv c.path ∧ ∀ s ∈ c.path, s.v.length = 6
theorem CmdRow.bel {w w' : World} {v : Value} {l : List Cm} (h : CmdRow w v l) (hb : Bel w w') : CmdRow w' v l := by
  obtain ⟨p, cp, h1, h2, h3⟩ := h
  refine ⟨p, cp, h1, h2, fun i c hi => ?_⟩
  obtain ⟨b, o, nv, pv, h4, ⟨q0, q1, q2, q3⟩, h5, h6, h7⟩ := h3 i c hi
  exact ⟨b, o, nv, pv, h4, ⟨hb.cell q0, hb.cell q1, hb.cell q2, hb.cell q3⟩, h5.bel hb, h6.bel hb, h7⟩
theorem CmdRow.nil (w : World) : CmdRow w (.slice none 0 0) [] := ⟨none, 0, rfl, Nat.le_refl _, fun i c h => by simp at h⟩
theorem goodC_eq (l : List Cm) : goodC l = (goodL true l && decide (0 < l.length) && decide (l.length ≤ 4096)) := by
  unfold goodC
  cases l with
  | nil => rfl
  | cons c r => simp [goodL, goodL_all]
/-- What is gone through in a command is not too long. -/
def Ok1 (c : Cm) : Prop := c.n.length ≤ 1000 ∧ c.path.length ≤ 1000000000
theorem num_form {w : World} {v : Value} {n : List Int} (h : NumRow w v n) : ∃ p c, v = .slice p n.length c := by
  obtain ⟨p, c, e, _⟩ := h
  exact ⟨p, c, e⟩
theorem segrow_form {w : World} {N : Nat} {v : Value} {n : List Sg} (h : SegRow w N v n) : ∃ p c, v = .slice p n.length c := by
  obtain ⟨p, c, e, _⟩ := h
  exact ⟨p, c, e⟩
set_option maxHeartbeats 1000000 in
set_option maxRecDepth 100000 in
theorem goodCmds_any (l : List Cm) (v : Value) (w : World) (h : CmdRow w v l) (hok : ∀ c ∈ l, Ok1 c) (hn : l.length ≤ 1000000000) : Calls Tryd.prog 26 #[v] w fun e w' => Bel w w' ∧ e = .returned (.bool (goodC l)) := by
  have H := Lib.hid h
  have HOK := Lib.hid hok
  obtain ⟨p, cp, rfl, _, _⟩ := h
  have HGC := Lib.hid (goodC_eq l)
  clear hok
  go_enter Tryd.func26, Tryd.ntmps26
  go_wp2
  go_loopg [7] l.length (fun gf s7 wx => ∃ k : Nat, s7 = .int .i64 k ∧ k ≤ l.length ∧ l.length ≤ k + gf ∧ goodL true l = goodL ((k : Int) == 0) (l.drop k) ∧ Bel w wx)
  case atStart => exact ⟨0, rfl, Nat.zero_le _, by omega, rfl, Bel.refl w⟩
  case round =>
    obtain ⟨k, rfl, hkl, hkg, hrel, hbl⟩ := hrel
    have HREL := Lib.hid hrel
    have HBL := Lib.hid hbl
    clear hrel hbl
    by_cases hk : k < l.length
    · obtain ⟨gk', rfl⟩ : ∃ g, gk = g + 1 := ⟨gk - 1, by omega⟩
      obtain ⟨c, hc⟩ : ∃ c, l[k]? = some c := ⟨_, List.getElem?_eq_getElem hk⟩
      obtain ⟨p', cp', he, _, hrow⟩ := H.out
      simp only [Value.slice.injEq] at he
      obtain ⟨rfl, _, rfl⟩ := he
      obtain ⟨b, o, nv, pv, rfl, ⟨q0, q1, q2, q3⟩, hnum, hseg, h6⟩ := hrow k c hc
      replace q0 := HBL.out.cell q0
      replace q1 := HBL.out.cell q1
      replace q2 := HBL.out.cell q2
      replace q3 := HBL.out.cell q3
      obtain ⟨na, nc, hnv⟩ := num_form hnum
      obtain ⟨pa, pc, hpv⟩ := segrow_form hseg
      subst hnv hpv
      obtain ⟨V, hV⟩ : ∃ V, wr.alloc (.cells #[.int .i64 c.kind, .slice na c.n.length nc, .slice pa c.path.length pc, .int .i64 c.place] 73) = V := ⟨_, rfl⟩
      have hWV : Bel wr V := hV ▸ (Bel.refl wr).alloc _
      have hTV : V.heap[wr.heap.size]? = some (.cells #[.int .i64 c.kind, .slice na c.n.length nc, .slice pa c.path.length pc, .int .i64 c.place] 73 (0, 0)) := hV ▸ heap_alloc_new _ _
      have v0 : V.cell? ⟨wr.heap.size, 0, none⟩ = some (.int .i64 c.kind) := by rw [heap_cell hTV]; rfl
      have v1 : V.cell? ⟨wr.heap.size, 1, none⟩ = some (.slice na c.n.length nc) := by rw [heap_cell hTV]; rfl
      have v2 : V.cell? ⟨wr.heap.size, 2, none⟩ = some (.slice pa c.path.length pc) := by rw [heap_cell hTV]; rfl
      have v3 : V.cell? ⟨wr.heap.size, 3, none⟩ = some (.int .i64 c.place) := by rw [heap_cell hTV]; rfl
      have hokc := HOK.out c (List.mem_of_getElem? hc)
      have HGO := Lib.hid (good_one c ((k : Int) == 0) _ _ V (hnum.bel (HBL.out.trans hWV)) hokc.1 (hseg.bel (HBL.out.trans hWV)) h6 hokc.2)
      have HBV := Lib.hid (HBL.out.trans hWV)
      have HD : Hid (goodL ((k : Int) == 0) (l.drop k) = (goodK ((k : Int) == 0) c && goodL (((k + 1 : Nat) : Int) == 0) (l.drop (k + 1)))) := by
        obtain ⟨hlt, e⟩ := List.getElem?_eq_some_iff.1 hc
        unfold Hid
        have e0 : (((k + 1 : Nat) : Int) == 0) = false := by simp; omega
        rw [List.drop_eq_getElem_cons hlt, e, goodL, e0]
      clear hWV hTV hc hrow hnum hseg h6
      obtain ⟨bg, hbg⟩ : ∃ bg, goodK ((k : Int) == 0) c = bg := ⟨_, rfl⟩
      rw [hbg] at HGO HD
      cases bg with
      | false =>
        have HR : Hid (goodC l = false) := by unfold Hid; rw [HGC.out, HREL.out, HD.out]; rfl
        go_wp2_with (first
          | (go_at_call 47; (with_reducible refine (HGO.out).mono ?_); rintro e w3 ⟨hb3, rfl⟩; have HB3 := Lib.hid hb3; clear hb3))
        go_ret
        exact ⟨HBV.out.trans HB3.out, by rw [HR.out]; rfl⟩
      | true =>
        go_wp2_with (first
          | (go_at_call 47; (with_reducible refine (HGO.out).mono ?_); rintro e w3 ⟨hb3, rfl⟩; have HB3 := Lib.hid hb3; clear hb3))
        go_roundg gk'
        case measure => omega
        case rel => exact ⟨k + 1, rfl, by omega, by omega, by rw [HREL.out, HD.out]; rfl, HBV.out.trans HB3.out⟩
    · obtain rfl : k = l.length := by omega
      have hg : goodL true l = true := by rw [HREL.out, List.drop_length]; rfl
      have HR : Hid (goodC l = (decide (0 < l.length) && decide (l.length ≤ 4096))) := by unfold Hid; rw [HGC.out, hg]; rfl
      clear hg
      by_cases hz : 0 < l.length
      · go_wp2
        go_ret
        refine ⟨HBL.out, ?_⟩
        show Ending.returned (.bool (decide ((l.length : Int) ≤ 4096))) = _
        rw [HR.out, decide_eq_true hz, Bool.true_and, decide_eq_decide.2 (show (l.length : Int) ≤ 4096 ↔ l.length ≤ 4096 by omega)]
      · go_wp2
        go_ret
        exact ⟨HBL.out, by rw [HR.out, decide_eq_false hz]; rfl⟩
end Go.Proofs.YtefajplbgmikdaaDoor
