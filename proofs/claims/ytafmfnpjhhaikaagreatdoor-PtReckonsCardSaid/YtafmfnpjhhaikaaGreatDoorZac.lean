/-
  The walks of cmp.Compare and nat.Cmp.
-/
import Derived.Test.YtafmfnpjhhaikaaGreatDoorZab
import Derived.StillTailTactics
import Derived.Deep.CutBlock
import Derived.Sort.QuietTacIn
namespace Go.Proofs.YtafmfnpjhhaikaaGreatDoor
open Go.RowKit Go.Shelf
attribute [local go_sem] Oper.semAt_some
def cmpI (x y : Int) : Int := if x < y then -1 else if y < x then 1 else 0
theorem cmpInt_any (x y : Int) (w : World) : Calls Tryz.prog 158 #[.int .i64 x, .int .i64 y] w fun e w' => e = .returned (.int .i64 (cmpI x y)) ∧ w' = w := by
  have hx : (x != x) = false := by simp
  have hy : (y != y) = false := by simp
  have hr : ∀ r, cmpI x y = r → Hid (cmpI x y = r) := fun r h => h
  by_cases h1 : x < y
  · have HR := hr (-1) (by unfold cmpI; rw [if_pos h1])
    have h1' : decide (x < y) = true := decide_eq_true h1
    clear hr
    go_enter Tryz.func158, Tryz.ntmps158
    go_wp2
    go_ret
    exact ⟨by rw [HR.out]; rfl, rfl⟩
  · have h1' : decide (x < y) = false := decide_eq_false h1
    by_cases h2 : y < x
    · have HR := hr 1 (by unfold cmpI; rw [if_neg h1, if_pos h2])
      have h2' : decide (y < x) = true := decide_eq_true h2
      clear hr
      go_enter Tryz.func158, Tryz.ntmps158
      go_wp2
      go_ret
      exact ⟨by rw [HR.out]; rfl, rfl⟩
    · have HR := hr 0 (by unfold cmpI; rw [if_neg h1, if_neg h2])
      have h2' : decide (y < x) = false := decide_eq_false h2
      clear hr
      go_enter Tryz.func158, Tryz.ntmps158
      go_wp2
      go_ret
      exact ⟨by rw [HR.out]; rfl, rfl⟩
theorem cmpU_any (x y : Int) (w : World) : Calls Tryz.prog 160 #[.int .u64 x, .int .u64 y] w fun e w' => e = .returned (.int .i64 (cmpI x y)) ∧ w' = w := by
  have hx : (x != x) = false := by simp
  have hy : (y != y) = false := by simp
  have hr : ∀ r, cmpI x y = r → Hid (cmpI x y = r) := fun r h => h
  by_cases h1 : x < y
  · have HR := hr (-1) (by unfold cmpI; rw [if_pos h1])
    have h1' : decide (x < y) = true := decide_eq_true h1
    clear hr
    go_enter Tryz.func160, Tryz.ntmps160
    go_wp2
    go_ret
    exact ⟨by rw [HR.out]; rfl, rfl⟩
  · have h1' : decide (x < y) = false := decide_eq_false h1
    by_cases h2 : y < x
    · have HR := hr 1 (by unfold cmpI; rw [if_neg h1, if_pos h2])
      have h2' : decide (y < x) = true := decide_eq_true h2
      clear hr
      go_enter Tryz.func160, Tryz.ntmps160
      go_wp2
      go_ret
      exact ⟨by rw [HR.out]; rfl, rfl⟩
    · have HR := hr 0 (by unfold cmpI; rw [if_neg h1, if_neg h2])
      have h2' : decide (y < x) = false := decide_eq_false h2
      clear hr
      go_enter Tryz.func160, Tryz.ntmps160
      go_wp2
      go_ret
      exact ⟨by rw [HR.out]; rfl, rfl⟩
theorem downs_has : ∀ {n j : Nat}, j < n → j ∈ downs n
  | n + 1, j, h => by
    rw [downs]
    by_cases hj : j = n
    · subst hj; exact List.mem_cons_self
    · exact List.mem_cons_of_mem _ (downs_has (by omega))
theorem downs_last {len k : Nat} {ini : List (Pl len)} {last : Pl len} (hk : k ≤ len) (h : (ini ++ [last]).map plN = (downs len).take k) : plN last = len - k ∧ ∀ j, plN last < j → j < len → j ∈ ini.map plN := by
  have hl : k = ini.length + 1 := by
    have := congrArg List.length h
    simp [downs_len] at this
    omega
  subst hl
  rw [downs_take (by omega), List.map_append] at h
  obtain ⟨h1, h2⟩ := List.append_inj' h rfl
  have h3 : plN last = len - 1 - ini.length := by simpa using h2
  refine ⟨by omega, fun j hj hjl => ?_⟩
  rw [h1]
  refine List.mem_of_getElem? (i := len - 1 - j) ?_
  rw [List.getElem?_take, if_pos (by omega), downs_at _ _ (by omega)]
  congr 1
  omega
theorem limbs_ext {a b : List Nat} (hl : a.length = b.length) (h : ∀ j, j < a.length → limbL a j = limbL b j) : a = b := by
  refine List.ext_getElem? fun j => ?_
  by_cases hj : j < a.length
  · rw [limb_some hj, limb_some (by omega), h j hj]
  · rw [List.getElem?_eq_none (by omega), List.getElem?_eq_none (by omega)]
theorem cmp_none {a b : List Nat} (hl : a.length = b.length) (h : ∀ j, j < a.length → limbL a j = limbL b j) : cmpN (valB B64 a) (valB B64 b) = 0 := by
  rw [limbs_ext hl h]
  unfold cmpN
  rw [if_neg (Nat.lt_irrefl _), if_pos rfl]
theorem limbs_drop {a b : List Nat} {i : Nat} (hl : a.length = b.length) (h : ∀ j, i < j → j < a.length → limbL a j = limbL b j) : a.drop (i + 1) = b.drop (i + 1) := by
  refine List.ext_getElem? fun j => ?_
  rw [List.getElem?_drop, List.getElem?_drop]
  by_cases hj : i + 1 + j < a.length
  · rw [limb_some hj, limb_some (by omega), h _ (by omega) hj]
  · rw [List.getElem?_eq_none (by omega), List.getElem?_eq_none (by omega)]
theorem cmp_some {a b : List Nat} {i : Nat} (ha : AllB B64 a) (hb : AllB B64 b) (hl : a.length = b.length) (hi : i < a.length) (hne : limbL a i ≠ limbL b i) (h : ∀ j, i < j → j < a.length → limbL a j = limbL b j) :
    cmpN (valB B64 a) (valB B64 b) = cmpI (limbL a i : Nat) (limbL b i : Nat) := by
  have hd := limbs_drop hl h
  unfold cmpN cmpI
  by_cases h1 : limbL a i < limbL b i
  · rw [if_pos (cmp_at ha hl hd (limb_some hi) (limb_some (by omega)) h1), if_pos (by omega)]
  · have h2 := cmp_at hb hl.symm hd.symm (limb_some (by omega)) (limb_some hi) (by omega)
    rw [if_neg (by omega), if_neg (by omega), if_neg (by omega), if_pos (by omega)]
theorem cmpI_zero {x y : Nat} (h : cmpI (x : Int) (y : Int) = 0) : x = y := by
  unfold cmpI at h
  split at h
  · exact absurd h (by decide)
  · split at h
    · exact absurd h (by decide)
    · omega
theorem cmpI_same {x y : Nat} (h : x = y) : cmpI (x : Int) (y : Int) = 0 := by
  subst h
  unfold cmpI
  rw [if_neg (Int.lt_irrefl _), if_neg (Int.lt_irrefl _)]
theorem keeps_drewN (W : World) (n : Nat) : KeepsOthers W (W.drewN n) := ⟨Nat.le_refl _, fun _ _ h _ => h⟩
theorem cell_drewN (W : World) (n : Nat) (a : Addr) : (W.drewN n).cell? a = W.cell? a := rfl
set_option maxHeartbeats 4000000 in
set_option maxRecDepth 100000 in
theorem natCmp_any (p1 p2 : Option Addr) (c1 c2 : Nat) (l1 l2 : List Nat) (w : World) (h1 : R64 w (.slice p1 l1.length c1) l1) (h2 : R64 w (.slice p2 l2.length c2) l2) (hl1 : l1.length < 1000000000) (hl2 : l2.length < 1000000000) :
    Calls Tryz.prog 115 #[.slice p1 l1.length c1, .slice p2 l2.length c2] w fun e w' => e = .returned (.int .i64 (cmpN (valB B64 l1) (valB B64 l2))) ∧ Bel w w' := by
  have H1 := Lib.hid h1
  have H2 := Lib.hid h2
  have HT1 : Hid (∀ X, Bel w X → _) := fun X hX => trim_any p1 c1 l1 X (h1.bel hX) (by omega)
  have HT2 : Hid (∀ X, Bel w X → _) := fun X hX => trim_any p2 c2 l2 X (h2.bel hX) (by omega)
  obtain ⟨n, hn⟩ : ∃ n, l1.length = n := ⟨_, rfl⟩
  obtain ⟨m, hm⟩ : ∃ m, l2.length = m := ⟨_, rfl⟩
  obtain ⟨t1, ht1⟩ : ∃ t, trimL l1 = t := ⟨_, rfl⟩
  obtain ⟨t2, ht2⟩ : ∃ t, trimL l2 = t := ⟨_, rfl⟩
  rw [hn, ht1] at HT1
  rw [hm, ht2] at HT2
  rw [hn, hm]
  obtain ⟨R, hR⟩ : ∃ R, cmpN (valB B64 l1) (valB B64 l2) = R := ⟨_, rfl⟩
  have HR0 := Lib.hid hR
  rw [hR]
  clear h1 h2 hR
  refine (callsIn_wide (n := 6)).1 ?_
  refine callsIn_of_wp_marks Tryz.func115 rfl trivial ?_ rfl
  simp only [Tryz.ntmps115, List.size_toArray, List.length_cons, List.length_nil, Nat.reduceAdd, Nat.reduceSub, Array.replicate_succ, Array.replicate_zero, List.push_toArray, List.append_toArray, List.nil_append, List.cons_append]
  rw [wpIn_wide]
  go_upto_region 1 with fail
  obtain ⟨X, hX⟩ : ∃ X, w.heap.size = X := ⟨_, rfl⟩
  obtain ⟨V, hV⟩ : ∃ V, ((w.alloc (.cells #[.slice p1 n c1] 22)).alloc (.cells #[.slice p2 m c2] 22)).alloc (.cells #[.int .i64 0] 3) = V := ⟨_, rfl⟩
  have HBV : Hid (Bel w V) := hV ▸ (((Bel.refl w).alloc _).alloc _).alloc _
  have hVA : V.heap[X]? = some (.cells #[.slice p1 n c1] 22 (0, 0)) := hX ▸ hV ▸ heap_push_of (heap_push_of (heap_alloc_new w _) _) _
  have hVB : V.heap[X + 1]? = some (.cells #[.slice p2 m c2] 22 (0, 0)) := by
    have h := heap_push_of (heap_alloc_new (w.alloc (.cells #[.slice p1 n c1] 22)) (.cells #[.slice p2 m c2] 22)) (.cells #[.int .i64 0] 3)
    rw [World.size_alloc, hX] at h
    exact hV ▸ h
  have hVR : V.heap[X + 2]? = some (.cells #[.int .i64 0] 3 (0, 0)) := by
    have h := heap_alloc_new ((w.alloc (.cells #[.slice p1 n c1] 22)).alloc (.cells #[.slice p2 m c2] 22)) (.cells #[.int .i64 0] 3)
    rw [World.size_alloc, World.size_alloc, hX] at h
    exact hV ▸ h
  rw [hV, hX]
  have HXV : Hid (X + 2 < V.heap.size) := heap_lt hVR
  have HXB : ∃ B R, X + 1 = B ∧ B + 1 = R := ⟨_, _, rfl, rfl⟩
  obtain ⟨XB, XR, hXB, hXR⟩ := HXB
  have hXR2 : X + 2 = XR := by omega
  rw [hXB, hXR]
  rw [hXB] at hVB
  rw [hXR2] at hVR HXV
  have HXO : Hid (X + 1 = XB ∧ X + 2 = XR) := ⟨hXB, hXR2⟩
  have HNE : X ≠ XB ∧ XB ≠ X ∧ X ≠ XR ∧ XR ≠ X ∧ XB ≠ XR ∧ XR ≠ XB := by omega
  obtain ⟨n1, n2, n3, n4, n5, n6⟩ := HNE
  clear hXB hXR hXR2
  have HX := Lib.hid hX
  clear hV hX
  have a0 : V.cell? ⟨X, 0, none⟩ = some (.slice p1 n c1) := by rw [heap_cell hVA]; rfl
  have b0 : V.cell? ⟨XB, 0, none⟩ = some (.slice p2 m c2) := by rw [heap_cell hVB]; rfl
  have a1 : V.frozen? ⟨X, 0, none⟩ = false := heap_frozen hVA 0
  have b1 : V.frozen? ⟨XB, 0, none⟩ = false := heap_frozen hVB 0
  have HBD : Hid (Bel w V.drew) := HBV.out.drew
  obtain ⟨Y, hY⟩ : ∃ Y, ((V.setCell ⟨X, 0, none⟩ (.slice p1 t1.length c1)).setCell ⟨XB, 0, none⟩ (.slice p2 t2.length c2)).drew = Y := ⟨_, rfl⟩
  have HY := Lib.hid hY
  go_cut [] from 7 to 10 (fun wx => wx = Y)
  case first =>
    clear hY
    go_region_with (first
      | (go_at_call 157; first | ((with_reducible refine (HT1.out _ HBD.out).mono ?_); rintro e w3 ⟨rfl, hw3⟩; obtain rfl := hw3.symm; clear hw3) | ((with_reducible refine (HT2.out _ HBD.out).mono ?_); rintro e w3 ⟨rfl, hw3⟩; obtain rfl := hw3.symm; clear hw3)))
    all_goals
      go_wp2
      go_meet
      exact HY.out
  case rest =>
  obtain rfl := hcut.symm
  have hwX := HX.out
  have hYA : Y.heap[X]? = some (.cells #[.slice p1 t1.length c1] 22 (0, 0)) := hY ▸ heap_other (heap_put hVA _) n2 _
  have hYB : Y.heap[XB]? = some (.cells #[.slice p2 t2.length c2] 22 (0, 0)) := hY ▸ heap_put (heap_other hVB n1 _) _
  have hYR : Y.heap[XR]? = some (.cells #[.int .i64 0] 3 (0, 0)) := hY ▸ heap_other (heap_other hVR n3 _) n5 _
  have HBY : Hid (Bel w Y) := hY ▸ ((HBV.out.set (p := ⟨X, 0, none⟩) (Nat.le_of_eq hwX) _).set (p := ⟨XB, 0, none⟩) (by have := HXO.out; simp; omega) _).drew
  have r1 : Y.cell? ⟨X, 0, none⟩ = some (.slice p1 t1.length c1) := by rw [heap_cell hYA]; rfl
  have r2 : Y.cell? ⟨XB, 0, none⟩ = some (.slice p2 t2.length c2) := by rw [heap_cell hYB]; rfl
  have r3 : Y.cell? ⟨XR, 0, none⟩ = some (.int .i64 0) := by rw [heap_cell hYR]; rfl
  have r4 : Y.frozen? ⟨XR, 0, none⟩ = false := heap_frozen hYR 0
  have hta1 : AllB B64 t1 := ht1 ▸ trim_all H1.out.all
  have hta2 : AllB B64 t2 := ht2 ▸ trim_all H2.out.all
  have htt1 : trimL t1 = t1 := ht1 ▸ trim_trim l1
  have htt2 : trimL t2 = t2 := ht2 ▸ trim_trim l2
  have hv1 : valB B64 l1 = valB B64 t1 := ht1 ▸ (val_trim B64 l1).symm
  have hv2 : valB B64 l2 = valB B64 t2 := ht2 ▸ (val_trim B64 l2).symm
  replace HR0 : Hid (cmpN (valB B64 t1) (valB B64 t2) = R) := by
    unfold Hid
    rw [← hv1, ← hv2]
    exact HR0.out
  by_cases hne : t1.length = t2.length
  · obtain ⟨L, hL⟩ : ∃ L, t1.length = L := ⟨_, rfl⟩
    have hL2 : t2.length = L := by omega
    rw [hL] at r1
    rw [hL2] at r2
    have hnn : ((L : Int) != (L : Int)) = false := by simp
    have HBK := Lib.hid (fun wx => backward_any p1 L c1 wx)
    go_upto_block 0 with (first
      | (go_at_call 159; (with_reducible refine (HBK.out _).mono ?_); rintro e w4 ⟨rfl, hw4⟩; obtain rfl := hw4.symm; clear hw4))
    obtain ⟨Z, hZ⟩ : ∃ Z, Y.alloc (.cells #[.slice p1 L c1] 22) = Z := ⟨_, rfl⟩
    obtain ⟨S, hS⟩ : ∃ S, Y.heap.size = S := ⟨_, rfl⟩
    rw [hZ, hS]
    refine wp_block ?_
    refine (wpIn_wide (n := 6)).1 ?_
    have hrow1 : R64 w (.slice p1 L c1) t1 := by
      have h := H1.out.take (trim_len l1)
      rwa [← trim_prefix, ht1, hL] at h
    have hrow2 : R64 w (.slice p2 L c2) t2 := by
      have h := H2.out.take (trim_len l2)
      rwa [← trim_prefix, ht2, hL2] at h
    have hLs : L < 1000000000000 := by
      have := trim_len l1
      rw [ht1, hL] at this
      omega
    obtain ⟨b1, o1, hp1, hbz1, hc1⟩ : ∃ b o, (0 < L → p1 = some ⟨b, o, none⟩) ∧ (0 < L ∨ b = 0) ∧ ∀ j, j < L → w.cell? ⟨b, o + j, none⟩ = some (.int .u64 (limbL t1 j : Nat)) := by
      by_cases h0 : 0 < L
      · obtain ⟨b, o, c', he, _⟩ := hrow1.at (limb_some (l := t1) (j := 0) (by omega))
        simp only [Value.slice.injEq] at he
        obtain ⟨rfl, _, rfl⟩ := he
        refine ⟨b, o, fun _ => rfl, .inl h0, fun j hj => ?_⟩
        obtain ⟨b', o', c'', he, _, hq, _⟩ := hrow1.at (limb_some (l := t1) (j := j) (by omega))
        simp only [Value.slice.injEq, Option.some.injEq, Addr.mk.injEq, and_true] at he
        obtain ⟨⟨rfl, rfl⟩, _, _⟩ := he
        exact hq
      · exact ⟨0, 0, fun h => absurd h h0, .inr rfl, fun j hj => absurd hj (by omega)⟩
    obtain ⟨b2, o2, hp2, hbz2, hc2⟩ : ∃ b o, (0 < L → p2 = some ⟨b, o, none⟩) ∧ (0 < L ∨ b = 0) ∧ ∀ j, j < L → w.cell? ⟨b, o + j, none⟩ = some (.int .u64 (limbL t2 j : Nat)) := by
      by_cases h0 : 0 < L
      · obtain ⟨b, o, c', he, _⟩ := hrow2.at (limb_some (l := t2) (j := 0) (by omega))
        simp only [Value.slice.injEq] at he
        obtain ⟨rfl, _, rfl⟩ := he
        refine ⟨b, o, fun _ => rfl, .inl h0, fun j hj => ?_⟩
        obtain ⟨b', o', c'', he, _, hq, _⟩ := hrow2.at (limb_some (l := t2) (j := j) (by omega))
        simp only [Value.slice.injEq, Option.some.injEq, Addr.mk.injEq, and_true] at he
        obtain ⟨⟨rfl, rfl⟩, _, _⟩ := he
        exact hq
      · exact ⟨0, 0, fun h => absurd h h0, .inr rfl, fun j hj => absurd hj (by omega)⟩
    have hYZ : Bel Y Z := hZ ▸ (Bel.refl Y).alloc _
    have hZB : Z.heap[S]? = some (.cells #[.slice p1 L c1] 22 (0, 0)) := hS ▸ hZ ▸ heap_alloc_new Y _
    have hSZ : S < Z.heap.size := heap_lt hZB
    have hXS : XR < S := by rw [← hS]; exact heap_lt hYR
    have hZc : Z.cell? ⟨S, 0, none⟩ = some (.slice p1 L c1) := by rw [heap_cell hZB]; rfl
    have hbZ : b1 < Z.heap.size := by
      rcases hbz1 with h | h
      · exact World.block_lt_of_cell? Z _ ((HBY.out.trans hYZ).cell (hc1 0 h))
      · omega
    have HD : Hid (∀ ys : List (Pl L), ys.map plN = downs L → (∀ x ∈ ys, limbL t1 (plN x) = limbL t2 (plN x)) → R = 0) := by
      intro ys hys hq
      rw [← HR0.out]
      exact cmp_none (by rw [hL, hL2]) fun j hj => by
        have : j ∈ ys.map plN := by rw [hys]; exact downs_has (by omega)
        obtain ⟨x, hx, rfl⟩ := List.mem_map.1 this
        exact hq x hx
    have HE : Hid (∀ (ini : List (Pl L)) (last : Pl L) (k : Nat), k ≤ L → (ini ++ [last]).map plN = (downs L).take k → (∀ x ∈ ini, limbL t1 (plN x) = limbL t2 (plN x)) → limbL t1 (plN last) ≠ limbL t2 (plN last) →
        R = cmpI (limbL t1 (plN last) : Nat) (limbL t2 (plN last) : Nat)) := by
      intro ini last k hk hys hq hne2
      rw [← HR0.out]
      obtain ⟨hlt, hall⟩ := downs_last hk hys
      exact cmp_some hta1 hta2 (by rw [hL, hL2]) (by rw [hL]; exact last.2) hne2 fun j h1 h2 => by
        obtain ⟨x, hx, rfl⟩ := List.mem_map.1 (hall j h1 (by omega))
        exact hq x hx
    clear HT1 HT2 H1 H2 hVA hVB hVR HBV HXV HBD HBK HY hY hYA hYB hta1 hta2 htt1 htt2 hv1 hv2 hne hL hL2 hrow1 hrow2 hn hm ht1 ht2 a0 b0 a1 HR0 hZB
    refine wpIn_rangeFunc_ownG rfl (by omega) (gf := 188) (lb := #[.pointer (some ⟨S, 0, none⟩)]) rfl trivial (enters_of Tryz.func188 (by kernel_rfl) rfl)
      (back_stops 5 (by omega) S p1 b1 o1 L c1 hLs hp1 Z hSZ (fun h => World.block_lt_of_cell? Z _ ((HBY.out.trans hYZ).cell (hc1 0 h))) hZc (fun j hj => ⟨_, (HBY.out.trans hYZ).cell (hc1 j hj)⟩))
      KpB.trans (fun W' l' o' o'' hl' _ _ _ => KpB.put hSZ hbZ W' l' o'' hl') (Below.refl _ _) (fun _ => rfl)
      (fun pre W' => (∀ x ∈ pre, limbL t1 (plN x) = limbL t2 (plN x)) ∧ Below Y.heap.size Y W')
      (fun c pre W' => (c = .ret ∧ ∃ ini last, pre = ini ++ [last] ∧ (∀ x ∈ ini, limbL t1 (plN x) = limbL t2 (plN x)) ∧ limbL t1 (plN last) ≠ limbL t2 (plN last) ∧ W'.cell? ⟨XR, 0, none⟩ = some (.int .i64 (cmpI (limbL t1 (plN last) : Nat) (limbL t2 (plN last) : Nat)))) ∧ Below w.heap.size w W')
      (OwnFrom.and (fun _ _ _ _ hs _ _ => hs) (ownFrom_below (Nat.le_refl _) hYZ.size))
      (fun c => OwnFrom.and (Own.from (fun s A B row hs hg hr => by obtain ⟨hc, ini, last, e1, e2, e3, e4⟩ := hs; exact ⟨hc, ini, last, e1, e2, e3, cell_kept e4 hg hr⟩) _) (ownFrom_below (Nat.le_refl _) (HBY.out.trans hYZ).size))
      ⟨by simp, hYZ⟩
      (fun x => { tmps := #[.slice p1 n c1, .slice p2 m c2, .pointer (some ⟨X, 0, none⟩), .pointer (some ⟨XB, 0, none⟩), .pointer (some ⟨XR, 0, none⟩), .int .i64 (plN x : Int), undef, u7, u8, u9, u10, .slice p1 L c1, .int .i64 L, .slice p2 L c2, .int .i64 L, .bool false, undef, undef, undef, undef, undef, .slice p1 L c1,
        .func (.func 188) #[] #[.pointer (some ⟨S, 0, none⟩)], .int .i64 (plN x : Int), .int .u64 x.1.2, undef, undef, undef, undef, undef, undef, undef, undef, undef, undef, undef, undef], defers := [] }) ?assign ?body ?done ?stop
    case assign =>
      intro l x W' K hK
      gi_wp2
      exact hK
    case body =>
      rintro l pre x W' ⟨hP, hB⟩ _
      have hBw : Bel w W' := HBY.out.trans hB
      have g1 := Bel.cell hB r1
      have g2 := Bel.cell hB r2
      have g3 := Bel.cell hB r3
      have g4 := heap_frozen (Bel.heap hB hYR) 0
      have hx := x.2
      have q1 := hBw.cell (hc1 (plN x) hx)
      have q2 := hBw.cell (hc2 (plN x) hx)
      obtain ⟨i, hi⟩ : ∃ i, plN x = i := ⟨_, rfl⟩
      have hiL : i < L := by rw [← hi]; exact hx
      rw [hi] at q1 q2
      obtain rfl := hp1 (by omega)
      obtain rfl := hp2 (by omega)
      rw [hi]
      obtain ⟨C, hC⟩ : ∃ C, cmpI ((limbL t1 i : Nat) : Int) ((limbL t2 i : Nat) : Int) = C := ⟨_, rfl⟩
      have HCU := Lib.hid (fun X => cmpU_any ((limbL t1 i : Nat) : Int) ((limbL t2 i : Nat) : Int) X)
      rw [hC] at HCU
      obtain ⟨A1, hA1⟩ : ∃ A, limbL t1 i = A := ⟨_, rfl⟩
      obtain ⟨A2, hA2⟩ : ∃ A, limbL t2 i = A := ⟨_, rfl⟩
      rw [hA1] at q1 HCU
      rw [hA2] at q2 HCU
      have hmx : Tryz.prog.follows .mixedOrders = true := by kernel_rfl
      have hfw : Fence.wide.fn 160 := trivial
      have hdp : 1 ≤ 6 - 1 - 1 := by omega
      have HCR : Hid (∀ k X, CallsIn (Fence.wide.inRound l) k Tryz.prog 160 #[.int .u64 (A1 : Int), .int .u64 (A2 : Int)] X (fun e w' => e = .returned (.int .i64 C) ∧ w' = X)) := fun k X => CallsIn.inRound l (callsIn_wide.2 (HCU.out X))
      by_cases hC0 : C = 0
      · have hC1 : (C != (0 : Int)) = false := by simp [hC0]
        gi_wp2
        (refine region_quiet (by kernel_rfl) (by kernel_rfl) (by kernel_rfl) ?_; (repeat (first | gi_big_quiet_step ((gi_at_call 160; exact CallsIn.quiet_of_same (HCR.out _ _))) | quiet_step_in ((gi_at_call 160; exact CallsIn.quiet_of_same (HCR.out _ _))))); refine wpQuietIn_nil ?_; intro _ hw'; obtain ⟨nq, hw''⟩ := hw'; subst hw'')
        gi_wp2
        have he : limbL t1 (plN x) = limbL t2 (plN x) := by
          rw [hi]
          exact cmpI_zero (hC.trans hC0)
        exact ⟨(keeps_drewN W' nq).from _, ⟨rfl, fun _ _ h => h⟩, ⟨fun y hy => (List.mem_append.1 hy).elim (hP y) (fun e => by simp at e; subst e; exact he), Bel.drewN hB nq⟩⟩
      · have hC1 : (C != (0 : Int)) = true := by simpa using hC0
        gi_wp2
        (refine region_quiet (by kernel_rfl) (by kernel_rfl) (by kernel_rfl) ?_; (repeat (first | gi_big_quiet_step ((gi_at_call 160; exact CallsIn.quiet_of_same (HCR.out _ _))) | quiet_step_in ((gi_at_call 160; exact CallsIn.quiet_of_same (HCR.out _ _))))); refine wpQuietIn_nil ?_; intro _ hw'; obtain ⟨nq, hw''⟩ := hw'; subst hw'')
        gi_wp2
        have he : limbL t1 (plN x) ≠ limbL t2 (plN x) := by
          rw [hi]
          intro h
          exact hC0 (hC.symm.trans (cmpI_same h))
        have hXw : w.heap.size ≤ XR := by have := HXO.out; omega
        exact ⟨((keeps_drewN W' nq).trans (KeepsOthers.setCell _ _ _)).from _, ⟨rfl, pre, x, rfl, hP, he, by rw [hi, hC]; exact World.cell?_setCell_same' _ _ _ (by rw [cell_drewN, g3]; rfl)⟩, Bel.set (Bel.drewN hBw nq) (p := ⟨XR, 0, none⟩) hXw _⟩
    case done =>
      rintro D ys W hD hys ⟨hq, hB⟩ hK
      obtain rfl := HD.out ys hys hq
      have g3 := Bel.cell hB r3
      have g4 := heap_frozen (Bel.heap hB hYR) 0
      have hXw : w.heap.size ≤ XR := by have := HXO.out; omega
      have hXD : XR < D := by omega
      clear HE HD hnn
      go_wp2
      have hK' := (KeepsOthers.setCell W ⟨XR, 0, none⟩ (.int .i64 0)).same D _ hK rfl
      refine ⟨by simp, .inl ⟨_, _, rfl, run_takeDeferred hK', ?_⟩⟩
      have hc5 := cell_kept (World.cell?_setCell_same' W ⟨XR, 0, none⟩ (.int .i64 0) (by rw [g3]; rfl)) (grownBy_putObj' _ D (.deferred none)) (fun r e => by cases e; exact ⟨_, hK', rfl⟩)
      refine ⟨.int .i64 0, ?_, rfl, Below.trans ((HBY.out.trans hB).set (p := ⟨XR, 0, none⟩) hXw _) (belowK_b (w := w) (Nat.le_refl _) _ D _ _ (by omega) hK' rfl rfl)⟩
      simp [results, Tryz.results115, go_sem, hc5]
    case stop =>
      rintro D c pre W hD ⟨k, hk, hpre⟩ ⟨⟨rfl, ini, last, rfl, e2, e3, hcr⟩, hB⟩ hK
      have hR := HE.out ini last k hk hpre e2 e3
      rw [← hR] at hcr
      gi_wp2
      refine ⟨by simp, .inl ⟨_, _, rfl, run_takeDeferred hK, ?_⟩⟩
      have hc5 := cell_kept hcr (grownBy_putObj' _ D (.deferred none)) (fun r e => by cases e; exact ⟨_, hK, rfl⟩)
      refine ⟨.int .i64 R, ?_, rfl, Below.trans hB (belowK_b (w := w) (Nat.le_refl _) W D _ _ (by have := HXO.out; omega) hK rfl rfl)⟩
      simp [results, Tryz.results115, go_sem, hc5]
  · have hne' : ((t1.length : Int) != (t2.length : Int)) = true := by
      have : ¬ (t1.length : Int) = (t2.length : Int) := by omega
      simpa using this
    have HR : Hid (cmpI (t1.length : Int) (t2.length : Int) = R) := by
      unfold Hid
      rw [← HR0.out]
      unfold cmpI cmpN
      by_cases h : t1.length < t2.length
      · rw [if_pos (by omega), if_pos (cmp_len b64_two hta1 htt2 h)]
      · have h3 : t2.length < t1.length := by omega
        have h4 := cmp_len b64_two hta2 htt1 h3
        rw [if_neg (by omega), if_pos (by omega), if_neg (by omega), if_neg (by omega)]
    have HCI := Lib.hid (fun wx => cmpInt_any (t1.length : Int) (t2.length : Int) wx)
    rw [HR.out] at HCI
    clear hY hYA hYB hYR hVA hVB hVR hta1 hta2 htt1 htt2 hv1 hv2 hne HR hwX
    go_wp2_with (first
      | (go_at_call 158; (with_reducible refine (HCI.out _).mono ?_); rintro e w4 ⟨rfl, hw4⟩; obtain rfl := hw4.symm; clear hw4))
    refine ⟨.int .i64 R, ?_, rfl, HBY.out.set (p := ⟨XR, 0, none⟩) (by have := HX.out; have := HXO.out; simp; omega) _⟩
    have r5 : (Y.setCell ⟨XR, 0, none⟩ (.int .i64 R)).cell? ⟨XR, 0, none⟩ = some (.int .i64 R) := World.cell?_setCell_same' _ _ _ (by rw [r3]; rfl)
    simp [results, Tryz.results115, go_sem, r5]
end Go.Proofs.YtafmfnpjhhaikaaGreatDoor
namespace Go.Proofs.YtafmfnpjhhaikaaGreatDoor
open Go.RowKit Go.Shelf
theorem sub_done {a b o : List Nat} {N c : Nat} (hN : N = (trimL a).length) (ha : AllB B64 a) (ho : o.length = N) (hoa : AllB B64 o) (hle : valB B64 b ≤ valB B64 a)
    (h : valB B64 o + valB B64 (b.take N) = valB B64 (a.take N) + c * B64 ^ N) : valB B64 o = valB B64 a - valB B64 b := by
  have h1 : valB B64 (a.take N) = valB B64 a := by rw [hN, ← trim_prefix, val_trim]
  have h2 : valB B64 a < B64 ^ N := by rw [← val_trim, hN]; exact val_lt (trim_all ha)
  have h3 : valB B64 (b.take N) = valB B64 b := by
    by_cases hN2 : N ≤ b.length
    · have h4 := val_drop B64 b N hN2
      have h5 : valB B64 (b.drop N) = 0 := by
        by_cases h6 : valB B64 (b.drop N) = 0
        · exact h6
        · have h7 : B64 ^ N * 1 ≤ B64 ^ N * valB B64 (b.drop N) := Nat.mul_le_mul_left _ (by omega)
          omega
      rw [h5] at h4
      omega
    · rw [List.take_of_length_le (by omega)]
  have h8 : valB B64 o < B64 ^ N := by rw [← ho]; exact val_lt hoa
  rw [h1, h3] at h
  have h9 : c = 0 := by
    by_cases h10 : c = 0
    · exact h10
    · have h11 : 1 * B64 ^ N ≤ c * B64 ^ N := Nat.mul_le_mul_right _ (by omega)
      omega
  subst h9
  omega
set_option maxHeartbeats 4000000 in
set_option maxRecDepth 100000 in
theorem natSub_any (p1 p2 : Option Addr) (c1 c2 : Nat) (l1 l2 : List Nat) (w : World) (h1 : R64 w (.slice p1 l1.length c1) l1) (h2 : R64 w (.slice p2 l2.length c2) l2) (hl1 : l1.length < 1000000000) (hl2 : l2.length < 1000000000) (hle : valB B64 l2 ≤ valB B64 l1) :
    Calls Tryz.prog 176 #[.slice p1 l1.length c1, .slice p2 l2.length c2] w fun e w' => ∃ p c, e = .returned (.tuple #[.slice p (limB B64 (valB B64 l1 - valB B64 l2)).length c, .int .i64 0]) ∧
      O64 w' w.heap.size (.slice p (limB B64 (valB B64 l1 - valB B64 l2)).length c) (limB B64 (valB B64 l1 - valB B64 l2)) ∧ Bel w w' := by
  have HC := Lib.hid (natCmp_any p1 p2 c1 c2 l1 l2 w h1 h2 hl1 hl2)
  have H1 := Lib.hid h1
  have H2 := Lib.hid h2
  have HA1 := Lib.hid h1.all
  have HA2 := Lib.hid h2.all
  have HLE := Lib.hid hle
  have HTR : Hid (∀ X, Bel w X → _) := fun X hX => trim_any p1 c1 l1 X (h1.bel hX) (by omega)
  obtain ⟨C, hC⟩ : ∃ C, cmpN (valB B64 l1) (valB B64 l2) = C := ⟨_, rfl⟩
  have hC0 : decide (C < 0) = false := by
    apply decide_eq_false
    rw [← hC]
    unfold cmpN
    rw [if_neg (by omega)]
    split <;> decide
  rw [hC] at HC
  obtain ⟨N, hN⟩ : ∃ N, (trimL l1).length = N := ⟨_, rfl⟩
  have HN := Lib.hid hN
  have hNl : N ≤ l1.length := by rw [← hN]; exact trim_len l1
  rw [hN] at HTR
  clear h1 h2 hN hle hC
  go_enter Tryz.func176, Tryz.ntmps176
  go_wp2_with (first
    | (go_at_call 115; (with_reducible refine (HC.out).mono ?_); rintro e w2 ⟨rfl, hw2⟩; have HW2 := Lib.hid hw2; clear hw2 HC)
    | (go_at_call 157; (with_reducible refine (HTR.out _ HW2.out).mono ?_); rintro e w3 ⟨rfl, hw3⟩; obtain rfl := hw3.symm; clear hw3 HTR))
  go_loopg [6, 7, 18] N (fun gf s6 s7 s18 wx => ∃ (i c : Nat) (o : List Nat) (p : Option Addr) (cp : Nat), s18 = .int .i64 i ∧ s7 = .int .u64 (c : Nat) ∧ c ≤ 1 ∧ s6 = .slice p o.length cp ∧ i ≤ N ∧ N ≤ i + gf ∧ o.length = i ∧ O64 wx w.heap.size (.slice p o.length cp) o ∧
    valB B64 o + valB B64 (l2.take i) = valB B64 (l1.take i) + c * B64 ^ i ∧ Bel w wx)
  case atStart => exact ⟨0, 0, [], none, 0, rfl, rfl, by omega, rfl, by omega, by omega, rfl, LOwn.nil _ _ _ _ _, by simp [valB], HW2.out⟩
  case round =>
    obtain ⟨i, c, o, p, cp, rfl, rfl, hc, rfl, hi, hig, ho, hown, hval, hb⟩ := hrel
    have HOWN := Lib.hid hown
    have HVAL := Lib.hid hval
    have HB := Lib.hid hb
    have HO := Lib.hid ho
    have hol : o.length < 1000000000 := by omega
    clear hown hval hb ho
    by_cases hlt : i < N
    · obtain ⟨gk', rfl⟩ : ∃ g, gk = g + 1 := ⟨gk - 1, by omega⟩
      have HL2 : Hid (∀ X, Bel w X → _) := fun X hX => limb_any p2 c2 i l2 X (H2.out.bel hX) (by omega)
      have hX := limb_lt b64_pos HA1.out i
      have hY := limb_lt b64_pos HA2.out i
      have hpl := sub_plain hX hY hc
      have HST := Lib.hid (sub_step HO.out HVAL.out rfl rfl hpl.1)
      obtain ⟨_, hpl⟩ := hpl
      obtain ⟨b, off, c', he, hlc, q0, _⟩ := (H1.out.bel HB.out).at (limb_some (l := l1) (j := i) (by omega))
      simp only [Value.slice.injEq] at he
      obtain ⟨rfl, _, rfl⟩ := he
      obtain ⟨X, hX'⟩ : ∃ X, limbL l1 i = X := ⟨_, rfl⟩
      obtain ⟨Y, hY'⟩ : ∃ Y, limbL l2 i = Y := ⟨_, rfl⟩
      rw [hX'] at HST hpl q0
      rw [hY'] at HL2 HST hpl
      have hsub := fun wx => run_subc X Y c hc wx
      obtain ⟨S, hS⟩ : ∃ S, (X + B64 - Y - c) % B64 = S := ⟨_, rfl⟩
      obtain ⟨D, hD⟩ : ∃ D, (if X < Y + c then 1 else 0 : Nat) = D := ⟨_, rfl⟩
      rw [hS, hD] at hsub HST hpl
      obtain ⟨hS6, hD1⟩ := hpl
      clear hX hY hX' hY' hS hD
      have HBD : Hid (∀ k, Bel w (wr.drewN k)) := fun k => HB.out.drewN k
      have HOD : Hid (∀ k, O64 (wr.drewN k) w.heap.size (.slice p o.length cp) o) := fun k => HOWN.out
      go_wp2
      go_quiet ((go_at_call 206; exact Calls.quiet_of_same (HL2.out _ (HBD.out _))))
      go_wp2_with (first
        | (at_builtin; (refine wpList_limb64 (W := wr.drewN nq) (w0 := w) rfl (.tmp 33) (.tmp 35) rfl (.slice p o.length cp) o rfl (HOD.out _) (HBD.out _) _ rfl rfl S hS6 (by omega) ?_); intro g3 c3 w3 ho3 hb3; have HO3 := Lib.hid ho3; have HB3 := Lib.hid hb3; clear ho3 hb3))
      go_roundg gk'
      case measure => omega
      case rel =>
        have hlen : (o ++ [S]).length = o.length + 1 := by simp
        refine ⟨i + 1, D, o ++ [S], some ⟨g3, 0, none⟩, c3, by go_num, rfl, hD1, by rw [hlen], by omega, by omega, by rw [hlen, HO.out], by rw [hlen]; exact HO3.out, HST.out, HB3.out⟩
    · obtain rfl : i = N := by omega
      have HFIN := Lib.hid (sub_done HN.out.symm HA1.out HO.out HOWN.out.2 HLE.out HVAL.out)
      go_wp2_with (first
        | (go_at_call 157; (with_reducible refine (trim_any _ _ o _ HOWN.out.row (by omega)).mono ?_); rintro e w4 ⟨rfl, hw4⟩; obtain rfl := hw4.symm))
      go_ret2
      have hfin : limB B64 (valB B64 l1 - valB B64 l2) = trimL o := by rw [← HFIN.out, lim_val b64_two HOWN.out.2]
      rw [hfin]
      refine ⟨p, cp, rfl, ?_, HB.out⟩
      have h := HOWN.out.take (trim_len o)
      rwa [← trim_prefix] at h
/-- Nothing but one block has changed. -/
def OnlyG (G : Nat) (w w' : World) : Prop := w'.heap.size = w.heap.size ∧ ∀ r, r ≠ G → w'.heap[r]? = w.heap[r]?
theorem OnlyG.refl (G : Nat) (w : World) : OnlyG G w w := ⟨rfl, fun _ _ => rfl⟩
theorem OnlyG.trans {G : Nat} {w w' w'' : World} (h : OnlyG G w w') (h' : OnlyG G w' w'') : OnlyG G w w'' := ⟨h'.1.trans h.1, fun r hr => (h'.2 r hr).trans (h.2 r hr)⟩
theorem OnlyG.set {G : Nat} {w w' : World} (h : OnlyG G w w') (j : Nat) (v : Value) : OnlyG G w (w'.setCell ⟨G, j, none⟩ v) :=
  h.trans ⟨by simp [World.setCell], fun r hr => by simp [World.setCell, Array.getElem?_modify, Ne.symm hr]⟩
theorem OnlyG.drewN {G : Nat} {w w' : World} (h : OnlyG G w w') (n : Nat) : OnlyG G w (w'.drewN n) := h
theorem OnlyG.own {G g base n c : Nat} {w w' : World} {l : List Nat} (h : OnlyG G w w') (hg : g ≠ G) (ho : O64 w base (.slice (some ⟨g, 0, none⟩) n c) l) : O64 w' base (.slice (some ⟨g, 0, none⟩) n c) l := by
  obtain ⟨⟨h1, h2⟩, h3⟩ := ho
  refine ⟨⟨h1, ?_⟩, h3⟩
  rcases h2 with ⟨h4, _⟩ | ⟨g', cap, cur, he, hb, hh, rest⟩
  · cases h4
  · simp only [Value.slice.injEq, Option.some.injEq, Addr.mk.injEq, and_true] at he
    obtain ⟨rfl, rfl, rfl⟩ := he
    exact .inr ⟨g, c, cur, rfl, hb, (h.2 g hg).trans hh, rest⟩
theorem less_limb {x y q c hi lo : Nat} (hx : x < B64) (hy : y < B64) (hq : q < B64) (hc : c < B64) (hm : hi * B64 + lo = q * y) (_ : lo < B64) :
    hi + (lo + c) / B64 + (if x < (lo + c) % B64 + 0 then 1 else 0) < B64 ∧ (x + B64 - (lo + c) % B64 - 0) % B64 < B64 ∧
    (x + B64 - (lo + c) % B64 - 0) % B64 + q * y + c = x + B64 * (hi + (lo + c) / B64 + (if x < (lo + c) % B64 + 0 then 1 else 0)) := by
  have hL : (lo + c) % B64 < B64 := Nat.mod_lt _ b64_pos
  have hs := sub_plain hx hL (c := 0) (by omega)
  have hd := Nat.div_add_mod (lo + c) B64
  obtain ⟨U, hU⟩ : ∃ U, (x + B64 - (lo + c) % B64 - 0) % B64 = U := ⟨_, rfl⟩
  obtain ⟨D, hD⟩ : ∃ D, (if x < (lo + c) % B64 + 0 then 1 else 0 : Nat) = D := ⟨_, rfl⟩
  rw [hU, hD] at hs ⊢
  obtain ⟨L, hLe⟩ : ∃ L, (lo + c) % B64 = L := ⟨_, rfl⟩
  obtain ⟨E, hE⟩ : ∃ E, (lo + c) / B64 = E := ⟨_, rfl⟩
  rw [hLe] at hs hd
  rw [hE] at hd ⊢
  have hk : U + q * y + c = x + B64 * (hi + E + D) := by
    rw [Nat.mul_add, Nat.mul_add, Nat.mul_comm B64 hi, Nat.mul_comm B64 D]
    omega
  have hqy : q * y ≤ (B64 - 1) * (B64 - 1) := Nat.mul_le_mul (by omega) (by omega)
  refine ⟨?_, hs.2.1, hk⟩
  have h3 : B64 * (hi + E + D) < B64 * B64 := by
    have e : (B64 - 1) * (B64 - 1) + 2 * (B64 - 1) + 1 = B64 * B64 := by decide
    omega
  exact Nat.lt_of_mul_lt_mul_left h3
theorem drop_set_below {l : List Nat} {i k v : Nat} (h : i < k) : (l.set i v).drop k = l.drop k := by
  refine List.ext_getElem? fun j => ?_
  rw [List.getElem?_drop, List.getElem?_drop, List.getElem?_set_ne (by omega)]
set_option maxHeartbeats 4000000 in
set_option maxRecDepth 100000 in
theorem lessen_any (wv w : World) (hvw : Bel wv w) (p : Option Addr) (cv n : Nat) (V : List Nat) (hV : R64 wv (.slice p n cv) V) (hVn : V.length = n) (G f cap K cK q : Nat) (L : List Nat)
    (hL : O64 w wv.heap.size (.slice (some ⟨G, 0, none⟩) K cK) L) (hK : L.length = K) (hf : f + n + 1 ≤ K) (hcap : n + 1 ≤ cap) (hK9 : K < 1000000000) (hq : q < B64) :
    Calls Tryz.prog 203 #[.slice (some ⟨G, f, none⟩) (n + 1) cap, .slice p n cv, .int .u64 (q : Int)] w fun e w' => ∃ (d : Nat) (L' : List Nat), e = .returned (.bool ((d : Int) != 0)) ∧ d ≤ 1 ∧ L'.length = K ∧
      L'.drop (f + n + 1) = L.drop (f + n + 1) ∧ O64 w' wv.heap.size (.slice (some ⟨G, 0, none⟩) K cK) L' ∧ Bel wv w' ∧ OnlyG G w w' ∧ valB B64 L' + B64 ^ f * (q * valB B64 V) = valB B64 L + B64 ^ (f + n + 1) * d := by
  have HV := Lib.hid hV
  have HVN := Lib.hid hVn
  have HVW := Lib.hid hvw
  have HL := Lib.hid hL
  have HK := Lib.hid hK
  clear hV hVn hvw hL hK
  go_enter Tryz.func203, Tryz.ntmps203
  go_wp2
  go_loopg [7, 15] n (fun gf s7 s15 wx => ∃ (i c : Nat) (o : List Nat), s15 = .int .i64 i ∧ s7 = .int .u64 (c : Nat) ∧ c < B64 ∧ i ≤ n ∧ n ≤ i + gf ∧ o.length = K ∧ o.drop (f + n + 1) = L.drop (f + n + 1) ∧ O64 wx wv.heap.size (.slice (some ⟨G, 0, none⟩) K cK) o ∧
    valB B64 o + B64 ^ f * (q * valB B64 (V.take i)) = valB B64 L + B64 ^ (f + i) * c ∧ Bel wv wx ∧ OnlyG G w wx)
  case atStart => exact ⟨0, 0, L, rfl, rfl, b64_pos, by omega, by omega, HK.out, rfl, HL.out, by simp [valB], HVW.out, OnlyG.refl _ _⟩
  case round =>
    obtain ⟨i, c, o, rfl, rfl, hc, hi, hig, ho, hdr, hown, hval, hb, hon⟩ := hrel
    have HOWN := Lib.hid hown
    have HVAL := Lib.hid hval
    have HB := Lib.hid hb
    have HO := Lib.hid ho
    have HDR := Lib.hid hdr
    have HON := Lib.hid hon
    clear hown hval hb ho hdr hon
    by_cases hlt : i < n
    · obtain ⟨gk', rfl⟩ : ∃ g, gk = g + 1 := ⟨gk - 1, by omega⟩
      obtain ⟨Y, hY⟩ : ∃ Y, V[i]? = some Y := ⟨_, List.getElem?_eq_getElem (by rw [HVN.out]; exact hlt)⟩
      have h2 := HV.out.bel HB.out
      obtain ⟨b2, o2, c2', he, _, q2, hYB⟩ := h2.at hY
      simp only [Value.slice.injEq] at he
      obtain ⟨rfl, hnn, rfl⟩ := he
      clear hnn
      have HY := Lib.hid (limb_at hY)
      have hT := limb_some (show f + i < o.length by rw [HO.out]; omega)
      obtain ⟨T, hT'⟩ : ∃ T, limbL o (f + i) = T := ⟨_, rfl⟩
      rw [hT'] at hT
      have HT := Lib.hid hT'
      have hTB := HOWN.out.2 T (List.mem_of_getElem? hT)
      obtain ⟨q3, q4⟩ := own_cell HOWN.out hT
      obtain ⟨hi, lo, hml, hhi, hlo, hmul⟩ := mul64_any hq hYB
      have HMU := Lib.hid hmul
      obtain ⟨hlb, hub, heq⟩ := less_limb hTB hYB hq hc hml hlo
      have ha1 := fun wx => run_add0 lo c wx
      obtain ⟨L1, hL1⟩ : ∃ L1, (lo + c) % B64 = L1 := ⟨_, rfl⟩
      obtain ⟨D1, hD1⟩ : ∃ D1, (lo + c) / B64 = D1 := ⟨_, rfl⟩
      rw [hL1, hD1] at ha1
      rw [hL1] at hub
      rw [hL1, hD1] at hlb heq
      have ha2 := fun wx => run_sub0 T L1 wx
      obtain ⟨O1, hO1⟩ : ∃ O1, (T + B64 - L1 - 0) % B64 = O1 := ⟨_, rfl⟩
      obtain ⟨D2, hD2⟩ : ∃ D2, (if T < L1 + 0 then 1 else 0 : Nat) = D2 := ⟨_, rfl⟩
      rw [hO1, hD2] at ha2 heq
      rw [hD2] at hlb
      rw [hO1] at hub
      have hw1 : IntKind.u64.wrap ((hi : Int) + (D1 : Int)) = (hi : Int) + (D1 : Int) := wrap64u (n := hi + D1) (by omega)
      have hw2 : IntKind.u64.wrap ((hi : Int) + (D1 : Int) + (D2 : Int)) = (hi : Int) + (D1 : Int) + (D2 : Int) := wrap64u (n := hi + D1 + D2) (by omega)
      have HEQ := Lib.hid heq
      have HBD := Lib.hid hlb
      have HS := Lib.hid (own_store HOWN.out HB.out (Nat.le_refl _) (f + i) O1 hub)
      clear hY h2 hT hT' hmul hml hL1 hD1 hO1 hD2 hlb heq
      go_wp2_with (first
        | (go_at_call 178; (with_reducible refine (HMU.out _).mono ?_); rintro e w3 ⟨rfl, hw3⟩; obtain rfl := hw3.symm))
      go_roundg gk'
      case measure => omega
      case rel =>
        refine ⟨i + 1, hi + D1 + D2, o.set (f + i) O1, by go_num, by go_num, HBD.out, by omega, by omega, by rw [List.length_set]; exact HO.out, by rw [drop_set_below (by omega)]; exact HDR.out, HS.out.1, ?_, HS.out.2, HON.out.set _ _⟩
        exact less_step (by rw [HO.out]; omega) HT.out HY.out HEQ.out HVAL.out
    · obtain rfl : i = n := by omega
      have hT := limb_some (show f + i < o.length by rw [HO.out]; omega)
      obtain ⟨T, hT'⟩ : ∃ T, limbL o (f + i) = T := ⟨_, rfl⟩
      rw [hT'] at hT
      have HT := Lib.hid hT'
      have hTB := HOWN.out.2 T (List.mem_of_getElem? hT)
      obtain ⟨q3, q4⟩ := own_cell HOWN.out hT
      have hs := sub_plain hTB hc (c := 0) (by omega)
      have ha2 := fun wx => run_sub0 T c wx
      obtain ⟨O1, hO1⟩ : ∃ O1, (T + B64 - c - 0) % B64 = O1 := ⟨_, rfl⟩
      obtain ⟨D2, hD2⟩ : ∃ D2, (if T < c + 0 then 1 else 0 : Nat) = D2 := ⟨_, rfl⟩
      rw [hO1, hD2] at ha2 hs
      have HEQ := Lib.hid hs
      have hub := hs.2.1
      have HS := Lib.hid (own_store HOWN.out HB.out (Nat.le_refl _) (f + i) O1 hub)
      clear hT hT' hO1 hD2 hs
      go_wp2
      go_ret
      refine ⟨D2, o.set (f + i) O1, rfl, HEQ.out.2.2, by rw [List.length_set]; exact HO.out, by rw [drop_set_below (by omega)]; exact HDR.out, HS.out.1, HS.out.2, HON.out.set _ _, ?_⟩
      exact less_last HVN.out (by rw [HO.out]; omega) HT.out (by have := HEQ.out.1; rw [Nat.mul_comm]; omega) HVAL.out
set_option maxHeartbeats 4000000 in
set_option maxRecDepth 100000 in
theorem back_any (wv w : World) (hvw : Bel wv w) (p : Option Addr) (cv n : Nat) (V : List Nat) (hV : R64 wv (.slice p n cv) V) (hVn : V.length = n) (G f cap K cK : Nat) (L : List Nat)
    (hL : O64 w wv.heap.size (.slice (some ⟨G, 0, none⟩) K cK) L) (hK : L.length = K) (hf : f + n + 1 ≤ K) (hcap : n + 1 ≤ cap) (hK9 : K < 1000000000) :
    Calls Tryz.prog 204 #[.slice (some ⟨G, f, none⟩) (n + 1) cap, .slice p n cv] w fun e w' => ∃ (d : Nat) (L' : List Nat), e = .returned (.bool ((d : Int) == 1)) ∧ d ≤ 1 ∧ L'.length = K ∧
      L'.drop (f + n + 1) = L.drop (f + n + 1) ∧ O64 w' wv.heap.size (.slice (some ⟨G, 0, none⟩) K cK) L' ∧ Bel wv w' ∧ OnlyG G w w' ∧ valB B64 L' + B64 ^ (f + n + 1) * d = valB B64 L + B64 ^ f * valB B64 V := by
  have HV := Lib.hid hV
  have HVN := Lib.hid hVn
  have HVW := Lib.hid hvw
  have HL := Lib.hid hL
  have HK := Lib.hid hK
  clear hV hVn hvw hL hK
  go_enter Tryz.func204, Tryz.ntmps204
  go_wp2
  go_loopg [5, 9] n (fun gf s5 s9 wx => ∃ (i c : Nat) (o : List Nat), s9 = .int .i64 i ∧ s5 = .int .u64 (c : Nat) ∧ c ≤ 1 ∧ i ≤ n ∧ n ≤ i + gf ∧ o.length = K ∧ o.drop (f + n + 1) = L.drop (f + n + 1) ∧ O64 wx wv.heap.size (.slice (some ⟨G, 0, none⟩) K cK) o ∧
    valB B64 o + B64 ^ (f + i) * c = valB B64 L + B64 ^ f * valB B64 (V.take i) ∧ Bel wv wx ∧ OnlyG G w wx)
  case atStart => exact ⟨0, 0, L, rfl, rfl, by omega, by omega, by omega, HK.out, rfl, HL.out, by simp [valB], HVW.out, OnlyG.refl _ _⟩
  case round =>
    obtain ⟨i, c, o, rfl, rfl, hc, hi, hig, ho, hdr, hown, hval, hb, hon⟩ := hrel
    have HOWN := Lib.hid hown
    have HVAL := Lib.hid hval
    have HB := Lib.hid hb
    have HO := Lib.hid ho
    have HDR := Lib.hid hdr
    have HON := Lib.hid hon
    clear hown hval hb ho hdr hon
    have hT := limb_some (show f + i < o.length by rw [HO.out]; omega)
    obtain ⟨T, hT'⟩ : ∃ T, limbL o (f + i) = T := ⟨_, rfl⟩
    rw [hT'] at hT
    have HT := Lib.hid hT'
    have hTB := HOWN.out.2 T (List.mem_of_getElem? hT)
    obtain ⟨q3, q4⟩ := own_cell HOWN.out hT
    by_cases hlt : i < n
    · obtain ⟨gk', rfl⟩ : ∃ g, gk = g + 1 := ⟨gk - 1, by omega⟩
      obtain ⟨Y, hY⟩ : ∃ Y, V[i]? = some Y := ⟨_, List.getElem?_eq_getElem (by rw [HVN.out]; exact hlt)⟩
      have h2 := HV.out.bel HB.out
      obtain ⟨b2, o2, c2', he, _, q2, hYB⟩ := h2.at hY
      simp only [Value.slice.injEq] at he
      obtain ⟨rfl, hnn, rfl⟩ := he
      clear hnn
      have HY := Lib.hid (limb_at hY)
      have hpl := add_plain hTB hYB hc
      have hdm := Nat.mod_add_div (T + Y + c) B64
      have hadd := fun wx => run_addc T Y c hc wx
      obtain ⟨O1, hO1⟩ : ∃ O1, (T + Y + c) % B64 = O1 := ⟨_, rfl⟩
      obtain ⟨D2, hD2⟩ : ∃ D2, (T + Y + c) / B64 = D2 := ⟨_, rfl⟩
      rw [hO1, hD2] at hadd hpl hdm
      have HEQ := Lib.hid hdm
      obtain ⟨hO1B, hD2B⟩ := hpl
      have HS := Lib.hid (own_store (w := wr.drew) HOWN.out HB.out.drew (Nat.le_refl _) (f + i) O1 hO1B)
      clear hY h2 hT hT' hO1 hD2 hdm
      have hi1 : (i : Int) < (n : Int) + 1 := by omega
      have hi2 : (i : Int) < (n : Int) := by omega
      go_wp2
      go_region_law (fail)
      all_goals go_wp2
      all_goals go_roundg gk'
      all_goals first
        | exact ⟨i + 1, D2, o.set (f + i) O1, by go_num, rfl, hD2B, by omega, by omega, by rw [List.length_set]; exact HO.out, by rw [drop_set_below (by omega)]; exact HDR.out, HS.out.1, back_step (by rw [HO.out]; omega) HT.out HY.out HEQ.out HVAL.out, HS.out.2, OnlyG.set (w' := wr.drew) HON.out _ _⟩
        | omega
    · obtain rfl : i = n := by omega
      have hadd := fun wx => run_add0 T c wx
      have hpl := add_plain (y := c) (c := 0) hTB (by have := b64_two; omega) (by omega)
      have hdm := Nat.mod_add_div (T + c) B64
      rw [Nat.add_zero] at hpl
      obtain ⟨O1, hO1⟩ : ∃ O1, (T + c) % B64 = O1 := ⟨_, rfl⟩
      obtain ⟨D2, hD2⟩ : ∃ D2, (T + c) / B64 = D2 := ⟨_, rfl⟩
      rw [hO1, hD2] at hadd hpl hdm
      have HEQ := Lib.hid hdm
      obtain ⟨hO1B, hD2B⟩ := hpl
      have HS := Lib.hid (own_store HOWN.out HB.out (Nat.le_refl _) (f + i) O1 hO1B)
      clear hT hT' hO1 hD2 hdm
      go_wp2
      go_ret
      refine ⟨D2, o.set (f + i) O1, rfl, hD2B, by rw [List.length_set]; exact HO.out, by rw [drop_set_below (by omega)]; exact HDR.out, HS.out.1, HS.out.2, HON.out.set _ _, ?_⟩
      exact back_last HVN.out (by rw [HO.out]; omega) HT.out HEQ.out HVAL.out
end Go.Proofs.YtafmfnpjhhaikaaGreatDoor
namespace Go.Proofs.YtafmfnpjhhaikaaGreatDoor
def H32 : Nat := 4294967296
theorem h32_sq : H32 * H32 = B64 := by decide
theorem h32_pos : 0 < H32 := by decide
section
variable {u l Y y1 y0 : Nat}
theorem half_lt (hY : Y = y1 * H32 + y0) (hu : u < Y) (hl : l < H32) : (u * H32 + l) / Y < H32 := by
  rw [Nat.div_lt_iff_lt_mul (by omega)]
  have h1 : (u + 1) * H32 ≤ Y * H32 := Nat.mul_le_mul_right _ hu
  rw [Nat.add_mul] at h1
  rw [Nat.mul_comm H32 Y]
  omega
theorem half_first (hY : Y = y1 * H32 + y0) (hl : l < H32) (h1 : 0 < y1) : (u * H32 + l) / Y ≤ u / y1 :=
  guess_first (B := H32) (E := 1) (T := u) (u0 := l) (v1 := y1) (v0 := y0) (by omega) hl (by omega) h1
theorem half_most (hY : Y = y1 * H32 + y0) (h0 : y0 < H32) (hu : u < Y) (hy1 : 2147483648 ≤ y1) : u / y1 ≤ H32 + 1 := by
  have h2 : u < (H32 + 2) * y1 := by
    have e : (H32 + 2) * y1 = y1 * H32 + 2 * y1 := by rw [Nat.add_mul, Nat.mul_comm]
    have e2 : H32 = 4294967296 := rfl
    omega
  have := (Nat.div_lt_iff_lt_mul (by omega)).2 h2
  omega
theorem half_big {q : Nat} (hY : Y = y1 * H32 + y0) (hu : u < Y) (hl : l < H32) (hq : H32 ≤ q) : (u * H32 + l) / Y < q := Nat.lt_of_lt_of_le (half_lt hY hu hl) hq
theorem half_next {q r : Nat} (hY : Y = y1 * H32 + y0) (hq : q * y1 + r = u) (h : H32 * r + l < q * y0) : (u * H32 + l) / Y < q :=
  guess_next (B := H32) (E := 1) (u2 := 0) (u1 := u) (u0 := l) (v1 := y1) (v0 := y0) (r := r) (by rw [Nat.zero_mul, Nat.zero_add]; omega) (by omega) (by omega) (by rw [Nat.mul_comm r]; exact h)
theorem half_stop {q r : Nat} (hY : Y = y1 * H32 + y0) (hYp : 0 < Y) (hq : q * y1 + r = u) (h : q * y0 ≤ H32 * r + l) (hle : (u * H32 + l) / Y ≤ q) : (u * H32 + l) / Y = q := by
  refine Nat.le_antisymm hle ?_
  rw [Nat.le_div_iff_mul_le hYp, hY, Nat.mul_add, ← hq, Nat.add_mul]
  have e : q * (y1 * H32) = q * y1 * H32 := by rw [Nat.mul_assoc]
  have e2 : r * H32 = H32 * r := Nat.mul_comm _ _
  omega
theorem half_break {q r : Nat} (h0 : y0 < H32) (hr : H32 ≤ r) (hq : q ≤ H32) : q * y0 ≤ H32 * r + l := by
  have h1 : q * y0 ≤ H32 * H32 := Nat.mul_le_mul hq (by omega)
  have h2 : H32 * H32 ≤ H32 * r := Nat.mul_le_mul_left _ hr
  omega
theorem half_rest (hYp : 0 < Y) : u * H32 + l - (u * H32 + l) / Y * Y = (u * H32 + l) % Y ∧ (u * H32 + l) % Y < Y ∧ (u * H32 + l) / Y * Y ≤ u * H32 + l := by
  have h := Nat.div_add_mod (u * H32 + l) Y
  rw [Nat.mul_comm] at h
  exact ⟨by omega, Nat.mod_lt _ hYp, by omega⟩
end
theorem div_halves {hi lo y W u L l1 l0 Y : Nat} (hW : 0 < W) (hy : 0 < y) (hYe : y * W = Y) (hN : (hi * B64 + lo) * W = u * B64 + L) (hL : L = l1 * H32 + l0) :
    (u * H32 + l1) / Y * H32 + ((u * H32 + l1) % Y * H32 + l0) / Y = (hi * B64 + lo) / y ∧ ((u * H32 + l1) % Y * H32 + l0) % Y / W = (hi * B64 + lo) % y := by
  have hYp : 0 < Y := by rw [← hYe]; exact Nat.mul_pos hy hW
  have h1 := Nat.div_add_mod (u * H32 + l1) Y
  obtain ⟨q1, hq1⟩ : ∃ q, (u * H32 + l1) / Y = q := ⟨_, rfl⟩
  obtain ⟨v, hv⟩ : ∃ q, (u * H32 + l1) % Y = q := ⟨_, rfl⟩
  rw [hq1, hv] at h1
  rw [hq1, hv]
  have h2 := Nat.div_add_mod (v * H32 + l0) Y
  have h3 := Nat.mod_lt (v * H32 + l0) hYp
  obtain ⟨q0, hq0⟩ : ∃ q, (v * H32 + l0) / Y = q := ⟨_, rfl⟩
  obtain ⟨r, hr⟩ : ∃ q, (v * H32 + l0) % Y = q := ⟨_, rfl⟩
  rw [hq0, hr] at h2
  rw [hr] at h3
  rw [hq0, hr]
  have h4 : (hi * B64 + lo) * W = y * W * (q1 * H32 + q0) + r := by
    rw [hN, hL, ← h32_sq, hYe]
    grind
  obtain ⟨h5, h6⟩ := shift_div hW h4 (by rw [hYe]; exact h3)
  exact ⟨h5, by rw [h6]; exact Nat.mul_div_cancel _ hW⟩
end Go.Proofs.YtafmfnpjhhaikaaGreatDoor
