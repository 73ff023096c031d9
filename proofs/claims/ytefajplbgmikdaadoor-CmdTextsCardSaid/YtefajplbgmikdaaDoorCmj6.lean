/-
  The walks of path.counts and path.good.
-/
import Derived.Test.YtefajplbgmikdaaDoorCmj5
namespace Go.Proofs.YtefajplbgmikdaaDoor
open Go.RowKit

def CNT : Array Value := #[.int .i64 0, .int .i64 2, .int .i64 2, .int .i64 4, .int .i64 6, .int .i64 4, .int .i64 0]
set_option maxRecDepth 100000 in
theorem counts_any (w : World) : Calls Tryd.prog 31 #[] w fun e w' => e = .returned (.agg #[.int .i64 0, .int .i64 2, .int .i64 2, .int .i64 4, .int .i64 6, .int .i64 4, .int .i64 0]) ∧ Bel w w' := by
  have h : ∀ V, V = w.alloc (.cells #[.int .i64 0, .int .i64 2, .int .i64 2, .int .i64 4, .int .i64 6, .int .i64 4, .int .i64 0] 61) → (V.cell? ⟨w.heap.size, 0, none⟩ = some (.int .i64 0) ∧ V.cell? ⟨w.heap.size, 1, none⟩ = some (.int .i64 2) ∧ V.cell? ⟨w.heap.size, 2, none⟩ = some (.int .i64 2) ∧ V.cell? ⟨w.heap.size, 3, none⟩ = some (.int .i64 4) ∧ V.cell? ⟨w.heap.size, 4, none⟩ = some (.int .i64 6) ∧ V.cell? ⟨w.heap.size, 5, none⟩ = some (.int .i64 4) ∧ V.cell? ⟨w.heap.size, 6, none⟩ = some (.int .i64 0)) ∧ Bel w V := by
    rintro V rfl
    have hh := heap_alloc_new w (.cells #[.int .i64 0, .int .i64 2, .int .i64 2, .int .i64 4, .int .i64 6, .int .i64 4, .int .i64 0] 61)
    exact ⟨⟨heap_cell hh 0, heap_cell hh 1, heap_cell hh 2, heap_cell hh 3, heap_cell hh 4, heap_cell hh 5, heap_cell hh 6⟩, (Bel.refl w).alloc _⟩
  have HH := Lib.hid h
  clear h
  go_enter Tryd.func31, Tryd.ntmps31
  go_wp2
  have hz := HH.out _ rfl
  generalize w.alloc (.cells #[.int .i64 0, .int .i64 2, .int .i64 2, .int .i64 4, .int .i64 6, .int .i64 4, .int .i64 0] 61) = V at hz ⊢
  obtain ⟨⟨c0, c1, c2, c3, c4, c5, c6⟩, hb⟩ := hz
  exact bodyPost_ret (v := .agg #[.int .i64 0, .int .i64 2, .int .i64 2, .int .i64 4, .int .i64 6, .int .i64 4, .int .i64 0]) (by simp [results, Tryd.results31, go_sem, c0, c1, c2, c3, c4, c5, c6]) rfl ⟨rfl, hb⟩
theorem cnt1 (w : World) : (Instr.index 61 (.agg #[.int .i64 0, .int .i64 2, .int .i64 2, .int .i64 4, .int .i64 6, .int .i64 4, .int .i64 0]) (.int .i64 1)).run Tryd.prog w = .ok (.int .i64 2) w := by kernel_rfl
theorem cnt2 (w : World) : (Instr.index 61 (.agg #[.int .i64 0, .int .i64 2, .int .i64 2, .int .i64 4, .int .i64 6, .int .i64 4, .int .i64 0]) (.int .i64 2)).run Tryd.prog w = .ok (.int .i64 2) w := by kernel_rfl
theorem cnt3 (w : World) : (Instr.index 61 (.agg #[.int .i64 0, .int .i64 2, .int .i64 2, .int .i64 4, .int .i64 6, .int .i64 4, .int .i64 0]) (.int .i64 3)).run Tryd.prog w = .ok (.int .i64 4) w := by kernel_rfl
theorem cnt4 (w : World) : (Instr.index 61 (.agg #[.int .i64 0, .int .i64 2, .int .i64 2, .int .i64 4, .int .i64 6, .int .i64 4, .int .i64 0]) (.int .i64 4)).run Tryd.prog w = .ok (.int .i64 6) w := by kernel_rfl
theorem cnt5 (w : World) : (Instr.index 61 (.agg #[.int .i64 0, .int .i64 2, .int .i64 2, .int .i64 4, .int .i64 6, .int .i64 4, .int .i64 0]) (.int .i64 5)).run Tryd.prog w = .ok (.int .i64 4) w := by kernel_rfl
theorem cnt6 (w : World) : (Instr.index 61 (.agg #[.int .i64 0, .int .i64 2, .int .i64 2, .int .i64 4, .int .i64 6, .int .i64 4, .int .i64 0]) (.int .i64 6)).run Tryd.prog w = .ok (.int .i64 0) w := by kernel_rfl
theorem six0 (v0 v1 v2 v3 v4 v5 : Int) (w : World) : (Instr.index 34 (.agg #[.int .i64 v0, .int .i64 v1, .int .i64 v2, .int .i64 v3, .int .i64 v4, .int .i64 v5]) (.int .i64 0)).run Tryd.prog w = .ok (.int .i64 v0) w := by kernel_rfl
theorem six1 (v0 v1 v2 v3 v4 v5 : Int) (w : World) : (Instr.index 34 (.agg #[.int .i64 v0, .int .i64 v1, .int .i64 v2, .int .i64 v3, .int .i64 v4, .int .i64 v5]) (.int .i64 1)).run Tryd.prog w = .ok (.int .i64 v1) w := by kernel_rfl
theorem six2 (v0 v1 v2 v3 v4 v5 : Int) (w : World) : (Instr.index 34 (.agg #[.int .i64 v0, .int .i64 v1, .int .i64 v2, .int .i64 v3, .int .i64 v4, .int .i64 v5]) (.int .i64 2)).run Tryd.prog w = .ok (.int .i64 v2) w := by kernel_rfl
theorem six3 (v0 v1 v2 v3 v4 v5 : Int) (w : World) : (Instr.index 34 (.agg #[.int .i64 v0, .int .i64 v1, .int .i64 v2, .int .i64 v3, .int .i64 v4, .int .i64 v5]) (.int .i64 3)).run Tryd.prog w = .ok (.int .i64 v3) w := by kernel_rfl
theorem six4 (v0 v1 v2 v3 v4 v5 : Int) (w : World) : (Instr.index 34 (.agg #[.int .i64 v0, .int .i64 v1, .int .i64 v2, .int .i64 v3, .int .i64 v4, .int .i64 v5]) (.int .i64 4)).run Tryd.prog w = .ok (.int .i64 v4) w := by kernel_rfl
theorem six5 (v0 v1 v2 v3 v4 v5 : Int) (w : World) : (Instr.index 34 (.agg #[.int .i64 v0, .int .i64 v1, .int .i64 v2, .int .i64 v3, .int .i64 v4, .int .i64 v5]) (.int .i64 5)).run Tryd.prog w = .ok (.int .i64 v5) w := by kernel_rfl
theorem cnt_at (k : Int) (h1 : 1 ≤ k) (h2 : k ≤ 6) (w : World) : (Instr.index 61 (.agg #[.int .i64 0, .int .i64 2, .int .i64 2, .int .i64 4, .int .i64 6, .int .i64 4, .int .i64 0]) (.int .i64 k)).run Tryd.prog w = .ok (.int .i64 (countK k)) w := by
  have : k = 1 ∨ k = 2 ∨ k = 3 ∨ k = 4 ∨ k = 5 ∨ k = 6 := by omega
  rcases this with rfl | rfl | rfl | rfl | rfl | rfl
  · exact cnt1 w
  · exact cnt2 w
  · exact cnt3 w
  · exact cnt4 w
  · exact cnt5 w
  · exact cnt6 w
theorem six_at (v0 v1 v2 v3 v4 v5 : Int) (k : Nat) (x : Int) (h : [v0, v1, v2, v3, v4, v5][k]? = some x) (w : World) : (Instr.index 34 (.agg #[.int .i64 v0, .int .i64 v1, .int .i64 v2, .int .i64 v3, .int .i64 v4, .int .i64 v5]) (.int .i64 k)).run Tryd.prog w = .ok (.int .i64 x) w := by
  have hk := (List.getElem?_eq_some_iff.1 h).1
  simp only [List.length_cons, List.length_nil] at hk
  have : k = 0 ∨ k = 1 ∨ k = 2 ∨ k = 3 ∨ k = 4 ∨ k = 5 := by omega
  rcases this with rfl | rfl | rfl | rfl | rfl | rfl
  · simp at h; subst h; exact six0 _ _ _ _ _ _ w
  · simp at h; subst h; exact six1 _ _ _ _ _ _ w
  · simp at h; subst h; exact six2 _ _ _ _ _ _ w
  · simp at h; subst h; exact six3 _ _ _ _ _ _ w
  · simp at h; subst h; exact six4 _ _ _ _ _ _ w
  · simp at h; subst h; exact six5 _ _ _ _ _ _ w
end Go.Proofs.YtefajplbgmikdaaDoor

/-
  The walk of path.good.
-/
namespace Go.Proofs.YtefajplbgmikdaaDoor
open Go.RowKit

theorem goodN_cons {c k : Nat} {x : Int} {l : List Int} (h : l[k]? = some x) : goodN c (l.drop k) k = (inR x && (decide (x = 0) || decide (k < c)) && goodN c (l.drop (k + 1)) (k + 1)) := by
  obtain ⟨hlt, he⟩ := List.getElem?_eq_some_iff.1 h
  rw [List.drop_eq_getElem_cons hlt, he, goodN]

theorem Bel.drews {w0 w : World} (h : Bel w0 w) (n : Nat) : Bel w0 (w.drewN n) := ⟨h.os, h.tape, h.output, h.size, h.block⟩
theorem in_quiet (x : Int) (b : Bool) (h : inR x = b) (w : World) : Calls Tryd.prog 58 #[.int .i64 x] w fun e w' => e = .returned (.bool b) ∧ w' = w := (in_any x w).mono fun e w' ⟨h1, h2⟩ => ⟨by rw [h1, h], h2.symm⟩
theorem sgb_c0 {W : World} {X : Nat} {a0 a1 a2 a3 a4 a5 a6 a7 : Value} (h : W.heap[X]? = some (.cells #[a0, a1, a2, a3, a4, a5, a6, a7] 36 (0, 0))) : W.cell? ⟨X, 0, none⟩ = some a0 := by rw [heap_cell h]; rfl
theorem sgb_c1 {W : World} {X : Nat} {a0 a1 a2 a3 a4 a5 a6 a7 : Value} (h : W.heap[X]? = some (.cells #[a0, a1, a2, a3, a4, a5, a6, a7] 36 (0, 0))) : W.cell? ⟨X, 1, none⟩ = some a1 := by rw [heap_cell h]; rfl
theorem sgb_c2 {W : World} {X : Nat} {a0 a1 a2 a3 a4 a5 a6 a7 : Value} (h : W.heap[X]? = some (.cells #[a0, a1, a2, a3, a4, a5, a6, a7] 36 (0, 0))) : W.cell? ⟨X, 2, none⟩ = some a2 := by rw [heap_cell h]; rfl
theorem sgb_c3 {W : World} {X : Nat} {a0 a1 a2 a3 a4 a5 a6 a7 : Value} (h : W.heap[X]? = some (.cells #[a0, a1, a2, a3, a4, a5, a6, a7] 36 (0, 0))) : W.cell? ⟨X, 3, none⟩ = some a3 := by rw [heap_cell h]; rfl
theorem sgb_c4 {W : World} {X : Nat} {a0 a1 a2 a3 a4 a5 a6 a7 : Value} (h : W.heap[X]? = some (.cells #[a0, a1, a2, a3, a4, a5, a6, a7] 36 (0, 0))) : W.cell? ⟨X, 4, none⟩ = some a4 := by rw [heap_cell h]; rfl
theorem sgb_c5 {W : World} {X : Nat} {a0 a1 a2 a3 a4 a5 a6 a7 : Value} (h : W.heap[X]? = some (.cells #[a0, a1, a2, a3, a4, a5, a6, a7] 36 (0, 0))) : W.cell? ⟨X, 5, none⟩ = some a5 := by rw [heap_cell h]; rfl
theorem sgb_c6 {W : World} {X : Nat} {a0 a1 a2 a3 a4 a5 a6 a7 : Value} (h : W.heap[X]? = some (.cells #[a0, a1, a2, a3, a4, a5, a6, a7] 36 (0, 0))) : W.cell? ⟨X, 6, none⟩ = some a6 := by rw [heap_cell h]; rfl
theorem sgb_c7 {W : World} {X : Nat} {a0 a1 a2 a3 a4 a5 a6 a7 : Value} (h : W.heap[X]? = some (.cells #[a0, a1, a2, a3, a4, a5, a6, a7] 36 (0, 0))) : W.cell? ⟨X, 7, none⟩ = some a7 := by rw [heap_cell h]; rfl
set_option maxHeartbeats 2000000 in
set_option maxRecDepth 100000 in
theorem good_any (s : Sg) (hv : s.v.length = 6) (w : World) : Calls Tryd.prog 36 #[.agg (sgC s).toArray] w fun e w' => e = .returned (.bool (goodOne s)) ∧ Bel w w' := by
  obtain ⟨sk, sv, sw⟩ := s
  obtain ⟨v0, v1, v2, v3, v4, v5, rfl⟩ := six hv
  simp only [sgC, List.map_cons, List.map_nil, List.cons_append, List.nil_append]
  obtain ⟨G, hG⟩ : ∃ G, goodOne ⟨sk, [v0, v1, v2, v3, v4, v5], sw⟩ = G := ⟨_, rfl⟩
  rw [hG]
  have HGE : Hid (G = (decide (1 ≤ sk) && decide (sk ≤ 6) && goodN (countK sk) [v0, v1, v2, v3, v4, v5] 0 && (if sk = 5 then decide (1 ≤ sw) && decide (sw ≤ 4096) else decide (sw = 0)))) := hG.symm
  clear hG hv
  have HB0 : Hid (Bel w (w.alloc (.cells #[.int .i64 sk, .int .i64 v0, .int .i64 v1, .int .i64 v2, .int .i64 v3, .int .i64 v4, .int .i64 v5, .int .i64 sw] 36))) := (Bel.refl w).alloc _
  have hbox := heap_alloc_new w (.cells #[.int .i64 sk, .int .i64 v0, .int .i64 v1, .int .i64 v2, .int .i64 v3, .int .i64 v4, .int .i64 v5, .int .i64 sw] 36)
  have HBX := Lib.hid hbox
  clear hbox
  go_enter Tryd.func36, Tryd.ntmps36
  go_upto_region 1 with fail
  generalize w.alloc (.cells #[.int .i64 sk, .int .i64 v0, .int .i64 v1, .int .i64 v2, .int .i64 v3, .int .i64 v4, .int .i64 v5, .int .i64 sw] 36) = W at HB0 HBX ⊢
  generalize w.heap.size = X at HBX ⊢
  have c0 := sgb_c0 HBX.out
  have c1 := sgb_c1 HBX.out
  have c2 := sgb_c2 HBX.out
  have c3 := sgb_c3 HBX.out
  have c4 := sgb_c4 HBX.out
  have c5 := sgb_c5 HBX.out
  have c6 := sgb_c6 HBX.out
  have c7 := sgb_c7 HBX.out
  by_cases k1 : sk < 1
  · have HG : Hid (G = false) := by unfold Hid; rw [HGE.out, decide_eq_false (p := 1 ≤ sk) (by omega)]; rfl
    go_wp2
    go_ret
    exact ⟨by rw [HG.out]; rfl, HB0.out⟩
  by_cases k6 : 6 < sk
  · have HG : Hid (G = false) := by unfold Hid; rw [HGE.out, decide_eq_false (p := sk ≤ 6) (by omega)]; simp
    go_wp2
    go_ret
    exact ⟨by rw [HG.out]; rfl, HB0.out⟩
  have HG1 : Hid (G = (goodN (countK sk) [v0, v1, v2, v3, v4, v5] 0 && (if sk = 5 then decide (1 ≤ sw) && decide (sw ≤ 4096) else decide (sw = 0)))) := by
    unfold Hid; rw [HGE.out, decide_eq_true (p := 1 ≤ sk) (by omega), decide_eq_true (p := sk ≤ 6) (by omega)]; rfl
  clear HGE
  go_wp2
  clear c0 c1 c2 c3 c4 c5 c6 c7
  go_loopg [15] 6 (fun gf i wx => ∃ k : Nat, i = .int .i64 k ∧ k ≤ 6 ∧ 6 ≤ k + gf ∧ goodN (countK sk) [v0, v1, v2, v3, v4, v5] 0 = goodN (countK sk) ([v0, v1, v2, v3, v4, v5].drop k) k ∧ Bel W wx)
  case atStart => exact ⟨0, rfl, by omega, by omega, rfl, Bel.refl _⟩
  case round =>
    obtain ⟨k, rfl, hk6, hkg, hgn, hb⟩ := hrel
    have HGN := Lib.hid hgn
    have HBW := Lib.hid hb
    have HBX2 := Lib.hid (hb.heap HBX.out)
    clear hgn hb
    have c0 := sgb_c0 HBX2.out
    have c7 := sgb_c7 HBX2.out
    by_cases hk : k < 6
    · obtain ⟨gk', rfl⟩ : ∃ g, gk = g + 1 := ⟨gk - 1, by omega⟩
      obtain ⟨x, hx⟩ : ∃ x, [v0, v1, v2, v3, v4, v5][k]? = some x := ⟨_, List.getElem?_eq_getElem (by simpa using hk)⟩
      have hix := six_at v0 v1 v2 v3 v4 v5 k x hx
      have HST := Lib.hid (goodN_cons (c := countK sk) hx)
      clear hx
      have hin : ∀ V, Calls Tryd.prog 58 #[.int .i64 x] V fun e w' => e = .returned (.bool (inR x)) ∧ V = w' := fun V => in_any x V
      have HIN := Lib.hid hin
      clear hin
      by_cases i1 : inR x = true
      · by_cases z1 : x = 0
        · have z1' : (x != 0) = false := by simpa using z1
          have HNX : Hid (goodN (countK sk) [v0, v1, v2, v3, v4, v5] 0 = goodN (countK sk) ([v0, v1, v2, v3, v4, v5].drop (k + 1)) (k + 1)) := by unfold Hid; rw [HGN.out, HST.out, i1, decide_eq_true z1]; simp
          clear z1
          go_wp2_with fail
          go_quiet ((go_at_call 58; exact Calls.quiet_of_same (in_quiet x _ i1 _)))
          go_wp2
          go_roundg gk'
          case measure => omega
          case rel => exact ⟨k + 1, rfl, by omega, by omega, HNX.out, HBW.out.drews _⟩
        · have z1' : (x != 0) = true := by simpa using z1
          by_cases kc : k < countK sk
          · have kc' : decide ((countK sk : Int) ≤ (k : Int)) = false := decide_eq_false (by omega)
            have HNX : Hid (goodN (countK sk) [v0, v1, v2, v3, v4, v5] 0 = goodN (countK sk) ([v0, v1, v2, v3, v4, v5].drop (k + 1)) (k + 1)) := by unfold Hid; rw [HGN.out, HST.out, i1, decide_eq_true kc]; simp
            have hca := cnt_at sk (by omega) (by omega)
            clear z1
            go_wp2_with fail
            go_region_with (first
              | (go_at_call 58; (with_reducible refine (HIN.out _).mono ?_); rintro e w9 ⟨rfl, rfl⟩)
              | (go_at_call 31; (with_reducible refine (counts_any _).mono ?_); rintro e w8 ⟨rfl, hb8⟩; have HB8 := Lib.hid hb8; have HBX8 := Lib.hid (hb8.heap (HBX2.out)); clear hb8; have d0 := sgb_c0 HBX8.out))
            all_goals
              go_wp2
              go_roundg gk'
              case measure => omega
              case rel => exact ⟨k + 1, rfl, by omega, by omega, HNX.out, (HBW.out.drew).trans HB8.out⟩
          · have kc2 : countK sk ≤ k := by omega
            have kc' : decide ((countK sk : Int) ≤ (k : Int)) = true := decide_eq_true (by omega)
            have HG2 : Hid (G = false) := by unfold Hid; rw [HG1.out, HGN.out, HST.out, i1, decide_eq_false z1, decide_eq_false kc]; simp
            have hca := cnt_at sk (by omega) (by omega)
            clear z1
            go_wp2_with fail
            go_region_with (first
              | (go_at_call 58; (with_reducible refine (HIN.out _).mono ?_); rintro e w9 ⟨rfl, rfl⟩)
              | (go_at_call 31; (with_reducible refine (counts_any _).mono ?_); rintro e w8 ⟨rfl, hb8⟩; have HB8 := Lib.hid hb8; have HBX8 := Lib.hid (hb8.heap (HBX2.out)); clear hb8; have d0 := sgb_c0 HBX8.out))
            all_goals
              go_wp2
              go_ret
              exact ⟨by rw [HG2.out]; rfl, HB0.out.trans ((HBW.out.drew).trans HB8.out)⟩
      · have i1' : inR x = false := by simpa using i1
        have HG2 : Hid (G = false) := by unfold Hid; rw [HG1.out, HGN.out, HST.out, i1']; simp
        clear i1
        go_wp2_with fail
        go_quiet ((go_at_call 58; exact Calls.quiet_of_same (in_quiet x _ i1' _)))
        go_wp2
        go_ret
        exact ⟨by rw [HG2.out]; rfl, HB0.out.trans (HBW.out.drews _)⟩
    · obtain rfl : k = 6 := by omega
      have HG2 : Hid (G = (if sk = 5 then decide (1 ≤ sw) && decide (sw ≤ 4096) else decide (sw = 0))) := by unfold Hid; rw [HG1.out, HGN.out]; rfl
      by_cases h5 : sk = 5
      · have h5' : (sk == 5) = true := by simpa using h5
        have HG3 : Hid (G = (decide (1 ≤ sw) && decide (sw ≤ 4096))) := by unfold Hid; rw [HG2.out, if_pos h5]
        clear h5
        by_cases a1 : 1 ≤ sw
        · have a1' : decide (1 ≤ sw) = true := decide_eq_true a1
          go_wp2
          go_ret
          exact ⟨by rw [HG3.out, a1']; rfl, HB0.out.trans HBW.out⟩
        · have a1' : decide (1 ≤ sw) = false := decide_eq_false a1
          go_wp2
          go_ret
          exact ⟨by rw [HG3.out, a1']; rfl, HB0.out.trans HBW.out⟩
      · have h5' : (sk == 5) = false := by simpa using h5
        have HG3 : Hid (G = (sw == 0)) := by unfold Hid; rw [HG2.out, if_neg h5, Bool.eq_iff_iff]; simp
        clear h5
        go_wp2
        go_ret
        exact ⟨by rw [HG3.out]; rfl, HB0.out.trans HBW.out⟩
end Go.Proofs.YtefajplbgmikdaaDoor
