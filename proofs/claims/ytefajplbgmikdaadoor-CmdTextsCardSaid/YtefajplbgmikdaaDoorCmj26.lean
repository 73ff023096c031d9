/-
  The walks of the reference's small functions on commands: its words, what a kind has, what a number may be, and what all together.
-/
import Derived.Test.YtefajplbgmikdaaDoorCmj12
import Derived.Test.YtefajplbgmikdaaDoorCmj25
import Derived.Test.YtefajplbgmikdaaDoorCmj17
namespace Go.Proofs.YtefajplbgmikdaaDoor
open Go.RowKit

def wordR (k : Int) : List UInt8 := if 1 ≤ k ∧ k ≤ 15 then nameK k.toNat else []
set_option maxHeartbeats 4000000 in
set_option maxRecDepth 100000 in
theorem refWord_any (k : Int) (w : World) : Calls Tryd.prog 43 #[.int .i64 k] w fun e w' => e = .returned (.string ⟨(wordR k).toArray⟩) ∧ Bel w w' := by
  by_cases h1 : 1 ≤ k
  · by_cases h2 : k ≤ 15
    · have HW : Hid (wordR k = nameK k.toNat) := by unfold Hid wordR; rw [if_pos ⟨h1, h2⟩]
      rcases kind_cases15 h1 h2 with rfl | rfl | rfl | rfl | rfl | rfl | rfl | rfl | rfl | rfl | rfl | rfl | rfl | rfl | rfl
      all_goals
        clear h1 h2
        go_enter Tryd.func43, Tryd.ntmps43
        go_wp2
        go_ret
        exact ⟨by rw [HW.out]; rfl, (Bel.refl w).alloc _⟩
    · have HW : Hid (wordR k = []) := by unfold Hid wordR; rw [if_neg (fun h => h2 h.2)]
      go_enter Tryd.func43, Tryd.ntmps43
      go_wp2
      go_ret
      exact ⟨by rw [HW.out]; rfl, Bel.refl w⟩
  · have HW : Hid (wordR k = []) := by unfold Hid wordR; rw [if_neg (fun h => h1 h.1)]
    go_enter Tryd.func43, Tryd.ntmps43
    go_wp2
    go_ret
    exact ⟨by rw [HW.out]; rfl, Bel.refl w⟩
theorem refIsPath_any (k : Int) (h1 : 1 ≤ k) (h2 : k ≤ 15) (w : World) : Calls Tryd.prog 44 #[.int .i64 k] w fun e w' => e = .returned (.bool (pathK k.toNat)) ∧ w = w' := by
  have HW : Hid (pathK k.toNat = decide (13 ≤ k)) := by
    unfold Hid pathK
    exact decide_eq_decide.2 (by omega)
  by_cases h : 13 ≤ k
  · have h' : decide (13 ≤ k) = true := decide_eq_true h
    go_enter Tryd.func44, Tryd.ntmps44
    go_wp2
    go_ret
    exact ⟨by rw [HW.out, h']; rfl, rfl⟩
  · have h' : decide (13 ≤ k) = false := decide_eq_false h
    go_enter Tryd.func44, Tryd.ntmps44
    go_wp2
    go_ret
    exact ⟨by rw [HW.out, h']; rfl, rfl⟩
/-- The words of a kind, in a row; none: nil. -/
def ChoiceRow (w : World) (v : Value) (k : Nat) : Prop := if wordsK k = [] then v = .slice none 0 0 else ∃ g, v = .slice (some ⟨g, 0, none⟩) (wordsK k).length (wordsK k).length ∧ ∀ (i : Nat) (s : List UInt8), (wordsK k)[i]? = some s → w.cell? ⟨g, i, none⟩ = some (.string ⟨s.toArray⟩)
set_option maxRecDepth 100000 in
theorem refChoice_any (k : Int) (h1 : 1 ≤ k) (h2 : k ≤ 15) (w : World) : Calls Tryd.prog 45 #[.int .i64 k] w fun e w' => ∃ v, e = .returned v ∧ ChoiceRow w' v k.toNat ∧ Bel w w' := by
  by_cases h5 : k = 5
  · subst h5
    clear h1 h2
    go_enter Tryd.func45, Tryd.ntmps45
    go_wp2
    go_ret
    refine ⟨_, rfl, ?_, (Bel.refl w).alloc _⟩
    refine (if_neg (by decide)).mpr ⟨w.heap.size, rfl, fun i s hs => ?_⟩
    rw [heap_cell (heap_alloc_new w _)]
    match i, hs with
    | 0, hs => cases hs; rfl
    | 1, hs => cases hs; rfl
  · by_cases h9 : k = 9
    · subst h9
      clear h1 h2 h5
      go_enter Tryd.func45, Tryd.ntmps45
      go_wp2
      go_ret
      refine ⟨_, rfl, ?_, (Bel.refl w).alloc _⟩
      refine (if_neg (by decide)).mpr ⟨w.heap.size, rfl, fun i s hs => ?_⟩
      rw [heap_cell (heap_alloc_new w _)]
      match i, hs with
      | 0, hs => cases hs; rfl
      | 1, hs => cases hs; rfl
      | 2, hs => cases hs; rfl
    · by_cases h10 : k = 10
      · subst h10
        clear h1 h2 h5 h9
        go_enter Tryd.func45, Tryd.ntmps45
        go_wp2
        go_ret
        refine ⟨_, rfl, ?_, (Bel.refl w).alloc _⟩
        refine (if_neg (by decide)).mpr ⟨w.heap.size, rfl, fun i s hs => ?_⟩
        rw [heap_cell (heap_alloc_new w _)]
        match i, hs with
        | 0, hs => cases hs; rfl
        | 1, hs => cases hs; rfl
        | 2, hs => cases hs; rfl
      · have hw : wordsK k.toNat = [] := by
          unfold wordsK
          rw [if_neg (by omega), if_neg (by omega), if_neg (by omega)]
        have HW := Lib.hid hw
        have e5 : (k == 5) = false := by simpa using h5
        have e9 : (k == 9) = false := by simpa using h9
        have e10 : (k == 10) = false := by simpa using h10
        clear hw h5 h9 h10
        go_enter Tryd.func45, Tryd.ntmps45
        go_wp2
        go_ret
        refine ⟨_, rfl, ?_, Bel.refl w⟩
        unfold ChoiceRow
        rw [if_pos HW.out]
        rfl
def cntR (k : Nat) : Int := if k = 12 then -1 else (countC k : Nat)
theorem refCount_any (k : Int) (h1 : 1 ≤ k) (h2 : k ≤ 15) (w : World) : Calls Tryd.prog 48 #[.int .i64 k] w fun e w' => e = .returned (.int .i64 (cntR k.toNat)) ∧ w = w' := by
  rcases kind_cases15 h1 h2 with rfl | rfl | rfl | rfl | rfl | rfl | rfl | rfl | rfl | rfl | rfl | rfl | rfl | rfl | rfl
  all_goals
    clear h1 h2
    go_enter Tryd.func48, Tryd.ntmps48
    go_wp2
    go_ret
    exact ⟨rfl, rfl⟩
theorem refWithin_any (k i cnt : Nat) (v : Int) (s : Int × Int) (hw : wordsK k = []) (hs : (spansK k cnt)[i]? = some s) (w : World) :
    Calls Tryd.prog 49 #[.int .i64 k, .int .i64 i, .int .i64 v] w fun e w' => e = .returned (.bool (decide (s.1 ≤ v) && decide (v ≤ s.2))) ∧ w = w' := by
  have hk : (k = 1 ∧ i < 2 ∧ s = (1, 8192)) ∨ (k = 1 ∧ 2 ≤ i ∧ s = (0, 255)) ∨ (k = 2 ∧ s = (-2147483647, 2147483647)) ∨ (k = 6 ∧ s = (0, 255)) ∨ (k = 7 ∧ s = (1, 1048576)) ∨ (k = 8 ∧ s = (-2147483647, 2147483647)) ∨ (k = 11 ∧ s = (64, 4096)) ∨ (k = 12 ∧ s = (0, 2147483647)) := by
    unfold spansK at hs
    unfold wordsK at hw
    have hrep : ∀ (n : Nat) (x : Int × Int), (List.replicate n x)[i]? = some s → s = x := fun n x h => by
      rw [List.getElem?_replicate] at h
      split at h <;> simp_all
    have hone : ∀ (x : Int × Int), ([x] : List (Int × Int))[i]? = some s → s = x := fun x h => hrep 1 x h
    by_cases e1 : k = 1
    · rw [if_pos e1] at hs
      match i, hs with
      | 0, hs => cases hs; exact .inl ⟨e1, by omega, rfl⟩
      | 1, hs => cases hs; exact .inl ⟨e1, by omega, rfl⟩
      | 2, hs => cases hs; exact .inr (.inl ⟨e1, by omega, rfl⟩)
      | 3, hs => cases hs; exact .inr (.inl ⟨e1, by omega, rfl⟩)
      | 4, hs => cases hs; exact .inr (.inl ⟨e1, by omega, rfl⟩)
    rw [if_neg e1] at hs
    by_cases e2 : k = 2
    · rw [if_pos e2] at hs; exact .inr (.inr (.inl ⟨e2, hrep _ _ hs⟩))
    rw [if_neg e2] at hs
    by_cases e5 : k = 5
    · rw [if_pos e5] at hw; cases hw
    rw [if_neg e5] at hs hw
    by_cases e6 : k = 6
    · rw [if_pos e6] at hs; exact .inr (.inr (.inr (.inl ⟨e6, hrep _ _ hs⟩)))
    rw [if_neg e6] at hs
    by_cases e7 : k = 7
    · rw [if_pos e7] at hs; exact .inr (.inr (.inr (.inr (.inl ⟨e7, hone _ hs⟩))))
    rw [if_neg e7] at hs
    by_cases e8 : k = 8
    · rw [if_pos e8] at hs; exact .inr (.inr (.inr (.inr (.inr (.inl ⟨e8, hone _ hs⟩)))))
    rw [if_neg e8] at hs
    by_cases e9 : k = 9
    · rw [if_pos e9] at hw; cases hw
    rw [if_neg e9] at hs hw
    by_cases e10 : k = 10
    · rw [if_pos e10] at hw; cases hw
    rw [if_neg e10] at hs
    by_cases e11 : k = 11
    · rw [if_pos e11] at hs; exact .inr (.inr (.inr (.inr (.inr (.inr (.inl ⟨e11, hone _ hs⟩))))))
    rw [if_neg e11] at hs
    by_cases e12 : k = 12
    · rw [if_pos e12] at hs; exact .inr (.inr (.inr (.inr (.inr (.inr (.inr ⟨e12, hrep _ _ hs⟩))))))
    rw [if_neg e12] at hs
    simp at hs
  clear hw hs
  rcases hk with ⟨rfl, hi, rfl⟩ | ⟨rfl, hi, rfl⟩ | ⟨rfl, rfl⟩ | ⟨rfl, rfl⟩ | ⟨rfl, rfl⟩ | ⟨rfl, rfl⟩ | ⟨rfl, rfl⟩ | ⟨rfl, rfl⟩
  all_goals
    go_enter Tryd.func49, Tryd.ntmps49
    go_wp2
    all_goals
      go_ret
      refine ⟨?_, rfl⟩
      simp
      try omega
end Go.Proofs.YtefajplbgmikdaaDoor

/-
  The walks of the reference's whole and dec.
-/
namespace Go.Proofs.YtefajplbgmikdaaDoor
open Go.RowKit

theorem prod_in {a b : Int} (ha : Sm a) (hb : Sm b) : IntKind.i64.wrap (a * b) = a * b := by
  unfold Sm at ha hb
  refine IntWalk.i64_in _ ?_
  have h1 : (a * b).natAbs ≤ 2147483648 * 2147483648 := by
    rw [Int.natAbs_mul]
    exact Nat.mul_le_mul (by omega) (by omega)
  omega
theorem any_drop {n : List Int} {k : Nat} {x : Int} (h : n[k]? = some x) : (n.drop k).any (fun x => decide (0 < x)) = (decide (0 < x) || (n.drop (k + 1)).any (fun x => decide (0 < x))) := by
  obtain ⟨hlt, he⟩ := List.getElem?_eq_some_iff.1 h
  rw [List.drop_eq_getElem_cons hlt, he, List.any_cons]
set_option maxHeartbeats 4000000 in
set_option maxRecDepth 100000 in
theorem refWhole_any (c : Cm) (nv pv : Value) (w : World) (hn : NumRow w nv c.n) (h2 : c.kind = 2 → c.n.length = 6 ∧ ∀ x ∈ c.n, Sm x) (h12 : c.kind = 12 → ∀ x ∈ c.n, 0 ≤ x) (hl : c.n.length ≤ 1000) (h0 : 1 ≤ c.kind) :
    Calls Tryd.prog 50 #[.agg #[.int .i64 c.kind, nv, pv, .int .i64 c.place]] w fun e w' => e = .returned (.bool (soundS c.kind.toNat c.n)) ∧ Bel w w' := by
  obtain ⟨kind, n, path, place⟩ := c
  dsimp only at *
  have HN := Lib.hid hn
  obtain ⟨na, nc, rfl, _⟩ := hn
  obtain ⟨V, hV⟩ : ∃ V, w.alloc (.cells #[.int .i64 kind, .slice na n.length nc, pv, .int .i64 place] 73) = V := ⟨_, rfl⟩
  have HB : Hid (Bel w V) := hV ▸ (Bel.refl w).alloc _
  obtain ⟨R, hR⟩ : ∃ R, w.heap.size = R := ⟨_, rfl⟩
  have hTV : V.heap[R]? = some (.cells #[.int .i64 kind, .slice na n.length nc, pv, .int .i64 place] 73 (0, 0)) := hR ▸ hV ▸ heap_alloc_new _ _
  have v0 : V.cell? ⟨R, 0, none⟩ = some (.int .i64 kind) := by rw [heap_cell hTV]; rfl
  have v1 : V.cell? ⟨R, 1, none⟩ = some (.slice na n.length nc) := by rw [heap_cell hTV]; rfl
  have HNV := Lib.hid (HN.out.bel HB.out)
  by_cases k2 : kind = 2
  · subst k2
    obtain ⟨h6, hs⟩ := h2 rfl
    obtain ⟨a0, a1, a2, a3, a4, a5, rfl⟩ := six h6
    have p1 := prod_in (hs a0 (by simp)) (hs a3 (by simp))
    have p2 := prod_in (hs a1 (by simp)) (hs a2 (by simp))
    obtain ⟨b, o, c', he, _, r0⟩ := HNV.out.at (j := 0) (x := a0) rfl
    simp only [Value.slice.injEq] at he
    obtain ⟨rfl, _, rfl⟩ := he
    obtain ⟨b', o', c', he, _, r1⟩ := HNV.out.at (j := 1) (x := a1) rfl
    simp only [Value.slice.injEq, Option.some.injEq, Addr.mk.injEq] at he
    obtain ⟨⟨rfl, rfl, _⟩, _, rfl⟩ := he
    obtain ⟨b', o', c', he, _, r2⟩ := HNV.out.at (j := 2) (x := a2) rfl
    simp only [Value.slice.injEq, Option.some.injEq, Addr.mk.injEq] at he
    obtain ⟨⟨rfl, rfl, _⟩, _, rfl⟩ := he
    obtain ⟨b', o', c', he, _, r3⟩ := HNV.out.at (j := 3) (x := a3) rfl
    simp only [Value.slice.injEq, Option.some.injEq, Addr.mk.injEq] at he
    obtain ⟨⟨rfl, rfl, _⟩, _, rfl⟩ := he
    rw [Nat.add_zero] at r0
    rw [show ([a0, a1, a2, a3, a4, a5] : List Int).length = 6 from rfl] at *
    have HS : Hid (soundS (2 : Int).toNat [a0, a1, a2, a3, a4, a5] = !decide (a0 * a3 = a1 * a2)) := rfl
    have hh : w.heap.size = R := hR
    clear h2 h12 h6 hs hl h0 hTV
    go_enter Tryd.func50, Tryd.ntmps50
    go_upto_region 1 with fail
    clear hR hV hh
    go_wp2
    go_quiet (fail)
    go_wp2
    go_ret
    refine ⟨?_, HB.out.drewN _⟩
    rw [HS.out]
    by_cases e : a0 * a3 = a1 * a2
    · rw [decide_eq_true e]
      have : (a0 * a3 != a1 * a2) = false := by simpa using e
      simp [this]
    · rw [decide_eq_false e]
      have : (a0 * a3 != a1 * a2) = true := by simpa using e
      simp [this]
  · have k2' : (kind == 2) = false := by simpa using k2
    by_cases k12 : kind = 12
    · subst k12
      have HP := Lib.hid (h12 rfl)
      have HS : Hid (soundS (12 : Int).toNat n = (decide (n = []) || (n.drop 1).any fun x => decide (0 < x))) := by
        unfold Hid soundS
        rw [if_neg (by decide), if_pos (by decide)]
        simp
      have hh : w.heap.size = R := hR
      clear h2 h12 h0 hTV k2
      go_enter Tryd.func50, Tryd.ntmps50
      go_upto_region 1 with fail
      clear hR hV hh
      by_cases hn0 : n = []
      · subst hn0
        go_wp2
        go_ret
        exact ⟨rfl, HB.out⟩
      · have hpos : 0 < n.length := List.length_pos_iff.2 hn0
        have HS2 : Hid (soundS (12 : Int).toNat n = (n.drop 1).any fun x => decide (0 < x)) := by
          unfold Hid
          rw [HS.out, decide_eq_false hn0, Bool.false_or]
        clear hn0
        go_wp2
        go_loopg [3] n.length (fun gf s3 wx => ∃ k : Nat, s3 = .int .i64 k ∧ 1 ≤ k ∧ k ≤ n.length ∧ n.length ≤ k + gf ∧ ((n.drop 1).any fun x => decide (0 < x)) = ((n.drop k).any fun x => decide (0 < x)) ∧ wx = V)
        case atStart => exact ⟨1, rfl, Nat.le_refl _, by omega, by omega, rfl, rfl⟩
        case round =>
          obtain ⟨k, rfl, hk1, hkl, hkg, hrel, hw⟩ := hrel
          have HREL := Lib.hid hrel
          obtain rfl := hw
          clear hrel
          by_cases hk : k < n.length
          · obtain ⟨gk', rfl⟩ : ∃ g, gk = g + 1 := ⟨gk - 1, by omega⟩
            obtain ⟨x, hx⟩ : ∃ x, n[k]? = some x := ⟨_, List.getElem?_eq_getElem hk⟩
            have HD := Lib.hid (any_drop hx)
            have hx0 := HP.out x (List.mem_of_getElem? hx)
            obtain ⟨b, o, c', he, _, r0⟩ := HNV.out.at hx
            simp only [Value.slice.injEq] at he
            obtain ⟨rfl, _, rfl⟩ := he
            clear hx
            by_cases hz : x = 0
            · subst hz
              go_wp2
              go_roundg gk'
              case measure => omega
              case rel => exact ⟨k + 1, rfl, by omega, by omega, by omega, by rw [HREL.out, HD.out]; rfl, rfl⟩
            · have hz' : (x != 0) = true := by simpa using hz
              have HT : Hid (decide (0 < x) = true) := decide_eq_true (by omega)
              go_wp2
              go_ret
              exact ⟨by rw [HS2.out, HREL.out, HD.out, HT.out]; rfl, HB.out⟩
          · obtain rfl : k = n.length := by omega
            go_wp2
            go_ret
            exact ⟨by rw [HS2.out, HREL.out, List.drop_length]; rfl, HB.out⟩
    · have k12' : (kind == 12) = false := by simpa using k12
      have HS : Hid (soundS kind.toNat n = true) := by
        unfold Hid soundS
        rw [if_neg (by omega), if_neg (by omega)]
      have hh : w.heap.size = R := hR
      clear h2 h12 hl h0 hTV k2 k12
      go_enter Tryd.func50, Tryd.ntmps50
      go_upto_region 1 with fail
      clear hR hV hh
      go_wp2
      go_ret
      exact ⟨by rw [HS.out]; rfl, HB.out⟩

theorem sg_row1 (W : World) (v : Int) : SegRow (W.alloc (.cells #[.int .i64 1, .int .i64 v, .int .i64 0, .int .i64 0, .int .i64 0, .int .i64 0, .int .i64 0, .int .i64 0] 36)) (W.alloc (.cells #[.int .i64 1, .int .i64 v, .int .i64 0, .int .i64 0, .int .i64 0, .int .i64 0, .int .i64 0, .int .i64 0] 36)).heap.size (.slice (some ⟨W.heap.size, 0, none⟩) 1 1) [⟨1, [v, 0, 0, 0, 0, 0], 0⟩] := by
  refine ⟨some ⟨W.heap.size, 0, none⟩, 1, rfl, Nat.le_refl _, .inr ⟨W.heap.size, 0, rfl, by simp, fun i s hs j u hu => ?_⟩⟩
  match i, hs with
  | 0, hs =>
    cases hs
    rw [heap_cell (heap_alloc_new W _)]
    match j, hu with
    | 0, hu | 1, hu | 2, hu | 3, hu | 4, hu | 5, hu | 6, hu | 7, hu => cases hu; rfl
set_option maxHeartbeats 4000000 in
set_option maxRecDepth 100000 in
theorem refDecC_any (v : Int) (hv : Sm v) (w : World) : Calls Tryd.prog 46 #[.int .i64 v] w fun e w' => e = .returned (.string ⟨(Lib.itoa v).toArray⟩) ∧ Bel w w' := by
  have hgood : goodS [⟨1, [v, 0, 0, 0, 0, 0], 0⟩] = true := by
    have hr := inR_iff.2 hv
    have h0 : inR 0 = true := by decide
    simp [goodS, headOk, noTwo, goodOne, goodN, countK, goodW, hr, h0]
  have htext : textS [⟨1, [v, 0, 0, 0, 0, 0], 0⟩] = [77, 32] ++ (Lib.itoa v ++ [32, 48]) := by
    simp [textS, wordsS, wordsOf, numsOf, letterB, countK, itoa_0, Lib.join]
  have HT := Lib.hid (refText_any [⟨1, [v, 0, 0, 0, 0, 0], 0⟩] (by simp) (by simp) _ _ (sg_row1 w v))
  rw [hgood, if_pos rfl, if_pos rfl, htext] at HT
  have hl11 := itoa_short hv
  obtain ⟨N, hN⟩ : ∃ N, (Lib.itoa v).length = N := ⟨_, rfl⟩
  obtain ⟨sb, hsb⟩ : ∃ sb : ByteArray, (⟨([77, 32] ++ (Lib.itoa v ++ [32, 48])).toArray⟩ : ByteArray) = sb := ⟨_, rfl⟩
  rw [hsb] at HT
  have hsz : sb.size = N + 4 := by
    subst hsb
    show ([77, 32] ++ (Lib.itoa v ++ [32, 48])).toArray.size = N + 4
    simp [hN]
  have HE : Hid (sb.extract 2 (N + 2) = ⟨(Lib.itoa v).toArray⟩) := by
    subst hsb
    unfold Hid
    apply ByteArray.ext
    apply Array.ext'
    rw [Lib.extract_data]
    simp [← hN]
  rw [hN] at hl11
  have e1 : ((N + 4 : Nat) : Int) - 2 = ((N + 2 : Nat) : Int) := by omega
  have e2 : (((N + 2 : Nat) : Int)).toNat = N + 2 := by omega
  clear hgood htext hv hsb hN
  go_enter Tryd.func46, Tryd.ntmps46
  go_wp2_with (first
    | (go_at_call 14; (with_reducible refine (HT.out).mono ?_); rintro e w2 ⟨hb2, rfl⟩; have HB := Lib.hid (Bel.trans ((Bel.refl w).alloc _) hb2); clear hb2))
  go_ret
  refine ⟨?_, HB.out⟩
  rw [← HE.out]
  rfl
end Go.Proofs.YtefajplbgmikdaaDoor

/-
  The walk of the reference's Good on commands.
-/
namespace Go.Proofs.YtefajplbgmikdaaDoor
open Go.RowKit

/-- Is a number of numbers one that a kind has? -/
def cntBad (k : Nat) (m : Nat) : Bool := decide ((0 ≤ cntR k ∧ (m : Int) ≠ cntR k) ∨ (cntR k < 0 ∧ 0 < m ∧ (m < 3 ∨ m % 2 = 0 ∨ 17 < m)))
def inSpan (p : (Int × Int) × Int) : Bool := decide (p.1.1 ≤ p.2) && decide (p.2 ≤ p.1.2)
theorem goodK_path {first : Bool} {c : Cm} (h1 : 1 ≤ c.kind) (h2 : c.kind ≤ 15) (hf : decide (c.kind = 1) = first) (hp : pathK c.kind.toNat = true) : goodK first c = (decide (c.n = []) && goodS c.path) := by
  unfold goodK
  rw [if_neg (by rintro (h | h | h); · omega
                 · omega
                 · exact h hf), if_pos hp]
theorem goodK_words {first : Bool} {c : Cm} (h1 : 1 ≤ c.kind) (h2 : c.kind ≤ 15) (hf : decide (c.kind = 1) = first) (hp : pathK c.kind.toNat = false) (hpa : c.path = []) (hw : wordsK c.kind.toNat ≠ []) :
    goodK first c = match c.n with | [x] => decide (0 ≤ x) && decide (x < (wordsK c.kind.toNat).length) | _ => false := by
  have hd : dashK c.kind.toNat = false := by
    by_cases hd : dashK c.kind.toNat = true
    · exact absurd (dash_words hd).1 hw
    · simpa using hd
  unfold goodK
  rw [if_neg (by rintro (h | h | h); · omega
                 · omega
                 · exact h hf), if_neg (by rw [hp]; simp), if_neg (by simp [hpa]), if_neg (by rw [hd]; simp)]
  obtain ⟨k, hk⟩ : ∃ k, c.kind.toNat = k := ⟨_, rfl⟩
  rw [hk] at hp hw hd ⊢
  have hk3 : k = 5 ∨ k = 9 ∨ k = 10 := by
    unfold wordsK at hw
    by_cases e5 : k = 5
    · exact .inl e5
    · by_cases e9 : k = 9
      · exact .inr (.inl e9)
      · by_cases e10 : k = 10
        · exact .inr (.inr e10)
        · rw [if_neg e5, if_neg e9, if_neg e10] at hw
          exact absurd rfl hw
  cases hn : c.n with
  | nil => rw [if_pos ⟨hd, by rw [if_neg hw]; simp⟩]
  | cons x r =>
    cases r with
    | cons y r => rw [if_pos ⟨hd, by rw [if_neg hw]; simp⟩]
    | nil =>
      rw [if_neg (by rw [if_neg hw]; simp)]
      rcases hk3 with rfl | rfl | rfl
      · simp [spansK, wordsK, soundS]
        by_cases h : 0 ≤ x <;> simp [h] <;> omega
      · simp [spansK, wordsK, soundS]
        by_cases h : 0 ≤ x <;> simp [h] <;> omega
      · simp [spansK, wordsK, soundS]
        by_cases h : 0 ≤ x <;> simp [h] <;> omega
theorem goodK_nums {first : Bool} {c : Cm} (h1 : 1 ≤ c.kind) (h2 : c.kind ≤ 15) (hf : decide (c.kind = 1) = first) (hp : pathK c.kind.toNat = false) (hpa : c.path = []) (hw : wordsK c.kind.toNat = []) :
    goodK first c = (!cntBad c.kind.toNat c.n.length && (((spansK c.kind.toNat c.n.length).zip c.n).all inSpan && soundS c.kind.toNat c.n)) ∧ (cntBad c.kind.toNat c.n.length = false → (spansK c.kind.toNat c.n.length).length = c.n.length ∧ c.n.length ≤ 17) := by
  unfold goodK
  rw [if_neg (by rintro (h | h | h); · omega
                 · omega
                 · exact h hf), if_neg (by rw [hp]; simp), if_neg (by simp [hpa])]
  obtain ⟨k, hk⟩ : ∃ k, c.kind.toNat = k := ⟨_, rfl⟩
  rw [hk] at hp hw ⊢
  have hk15 : k ≤ 15 := by omega
  unfold cntBad cntR
  by_cases hd : dashK k = true
  · obtain rfl : k = 12 := of_decide_eq_true hd
    rw [if_pos rfl]
    have hc : (countC 12 : Nat) = 0 := rfl
    refine ⟨?_, fun h => ?_⟩
    · by_cases hb : 0 < c.n.length ∧ (c.n.length < 3 ∨ c.n.length % 2 = 0 ∨ 17 < c.n.length)
      · rw [if_pos ⟨hd, hb⟩, decide_eq_true (.inr ⟨by omega, hb⟩)]; rfl
      · rw [if_neg (fun h => hb h.2), if_neg (by rw [hd]; simp), decide_eq_false (by rintro (h | h); · omega
                                                                                     · exact hb h.2)]; rfl
    · have := of_decide_eq_false h
      exact ⟨(dash_words hd).2.2 _, by omega⟩
  · have hd' : dashK k = false := by simpa using hd
    have hk12 : k ≠ 12 := of_decide_eq_false hd'
    rw [if_neg hk12, if_neg (fun h => hd h.1), if_pos hw]
    refine ⟨?_, fun h => ?_⟩
    · by_cases hb : c.n.length = countC k
      · rw [if_neg (fun h => h.2 hb), decide_eq_false (by rintro (h | h); · omega
                                                          · omega)]; rfl
      · rw [if_pos ⟨hd', hb⟩, decide_eq_true (.inl ⟨by omega, by omega⟩)]; rfl
    · have := of_decide_eq_false h
      have hl : c.n.length = countC k := by omega
      refine ⟨by rw [spans_len k _ hw hp hd', hl], ?_⟩
      rw [hl]
      unfold countC
      rcases (by omega : k = 0 ∨ k = 1 ∨ k = 2 ∨ k = 3 ∨ k = 4 ∨ k = 5 ∨ k = 6 ∨ k = 7 ∨ k = 8 ∨ k = 9 ∨ k = 10 ∨ k = 11 ∨ k = 12 ∨ k = 13 ∨ k = 14 ∨ k = 15) with rfl | rfl | rfl | rfl | rfl | rfl | rfl | rfl | rfl | rfl | rfl | rfl | rfl | rfl | rfl | rfl <;> decide
theorem zip_at {ss : List (Int × Int)} {n : List Int} {j : Nat} {x : Int} {s : Int × Int} (h1 : ss[j]? = some s) (h2 : n[j]? = some x) : ((ss.zip n).drop j).all inSpan = (inSpan (s, x) && ((ss.zip n).drop (j + 1)).all inSpan) := by
  obtain ⟨a, b⟩ := List.getElem?_eq_some_iff.1 h1
  obtain ⟨a', b'⟩ := List.getElem?_eq_some_iff.1 h2
  have hl : j < (ss.zip n).length := by rw [List.length_zip]; omega
  rw [List.drop_eq_getElem_cons hl, List.all_cons, List.getElem_zip, b, b']
theorem span_dash {m : Nat} {n : List Int} (h : ((spansK 12 m).zip n).all inSpan = true) (hl : n.length = m) : ∀ x ∈ n, 0 ≤ x := by
  intro x hx
  obtain ⟨j, hj⟩ := List.mem_iff_getElem?.1 hx
  have hjm : j < m := by rw [← hl]; exact (List.getElem?_eq_some_iff.1 hj).1
  have hs : (spansK 12 m)[j]? = some (0, 2147483647) := by
    have : spansK 12 m = List.replicate m (0, 2147483647) := rfl
    rw [this, List.getElem?_replicate, if_pos hjm]
  have hd : (((spansK 12 m).zip n).drop j).all inSpan = true := by
    rw [List.all_eq_true] at h ⊢
    exact fun y hy => h y (List.mem_of_mem_drop hy)
  rw [zip_at hs hj, Bool.and_eq_true] at hd
  have := hd.1
  unfold inSpan at this
  simp at this
  exact this.1
theorem choice_nil {w : World} {v : Value} {k : Nat} (hw : wordsK k = []) (h : ChoiceRow w v k) : v = .slice none 0 0 := by
  unfold ChoiceRow at h
  rw [if_pos hw] at h
  exact h
theorem choice_row {w : World} {v : Value} {k m : Nat} (hw : wordsK k ≠ []) (hm : (wordsK k).length = m) (h : ChoiceRow w v k) : ∃ g, v = .slice (some ⟨g, 0, none⟩) m m ∧ ∀ (i : Nat) (s : List UInt8), (wordsK k)[i]? = some s → w.cell? ⟨g, i, none⟩ = some (.string ⟨s.toArray⟩) := by
  unfold ChoiceRow at h
  rw [if_neg hw, hm] at h
  exact h
theorem kind_words {k : Int} (h : ¬ (1 ≤ k ∧ k ≤ 15)) : (wordR k) = [] := by unfold wordR; rw [if_neg h]
theorem kind_words2 {k : Int} (h1 : 1 ≤ k) (h2 : k ≤ 15) : ∃ a l, wordR k = a :: l := by
  unfold wordR
  rw [if_pos ⟨h1, h2⟩]
  rcases kind_cases15 h1 h2 with rfl | rfl | rfl | rfl | rfl | rfl | rfl | rfl | rfl | rfl | rfl | rfl | rfl | rfl | rfl <;> exact ⟨_, _, rfl⟩
end Go.Proofs.YtefajplbgmikdaaDoor
