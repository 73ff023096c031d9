/-
  nat: Text of a small number.
-/
import Derived.Test.YtafmfnpjhhaikaaGreatDoorZar
import Derived.Test.YtafmfnpjhhaikaaGreatDoorZan
import Derived.Test.YtafmfnpjhhaikaaGreatDoorZao
namespace Go.Proofs.YtafmfnpjhhaikaaGreatDoor
open Go.RowKit Go.Shelf
attribute [local go_sem] Oper.semAt_some
theorem made18 (wx : World) : (Instr.makeSlice 196 (.int .i64 18) (.int .i64 18)).run Tryz.prog wx = .ok (.slice (some ⟨wx.heap.size, 0, none⟩) 18 18) (wx.alloc (.cells (madeCells #[.int .u8 0] (18 * 1)) 5)) := by
  have hinfo : (Tryz.prog.info? 5).map (fun i => (i.zero, i.size, i.bytes)) = some (some (.int .u8 0), 1, 1) := by kernel_rfl
  obtain ⟨i0, hi, hz0, hz1, hz2⟩ := info_parts hinfo
  have h := run_make (P := Tryz.prog) wx 196 5 i0 (.int .u8 0) Tryz.underlying196 hi hz0 .i64 .i64 18 18 (by omega) (by omega) (by rw [hz2]; omega) (by omega)
  rw [hz1] at h
  exact h
theorem heap_set_map {w : World} {B i t d : Nat} {o : List Nat} {k : IntKind} (h : w.heap[B]? = some (.cells (o.map (lmV k)).toArray t (0, 0))) : (w.setCell ⟨B, i, none⟩ (.int k (d : Int))).heap[B]? = some (.cells ((o.set i d).map (lmV k)).toArray t (0, 0)) := by
  simp [World.setCell, Array.getElem?_modify, h, List.map_set, lmV]
theorem text_next {n i k r : Nat} {o pre : List Nat} (ho : o.length = 18) (hi : i < 18) (h : ∀ k, k ≤ 18 → pre = (downs 18).take k → r = n / 10 ^ k ∧ ∀ j, 18 - k ≤ j → j < 18 → o[j]? = some (48 + n / 10 ^ (17 - j) % 10)) (hk : k ≤ 18) (hp : pre ++ [i] = (downs 18).take k) :
    r / 10 = n / 10 ^ k ∧ ∀ j, 18 - k ≤ j → j < 18 → (o.set i (48 + r % 10))[j]? = some (48 + n / 10 ^ (17 - j) % 10) := by
  have hlen := congrArg List.length hp
  rw [List.length_append, List.length_singleton, List.length_take, downs_len, Nat.min_eq_left hk] at hlen
  obtain ⟨m, rfl⟩ : ∃ m, k = m + 1 := ⟨pre.length, by omega⟩
  rw [downs_take (by omega)] at hp
  obtain ⟨h1, h2⟩ := List.append_inj' hp rfl
  have hi2 : i = 18 - 1 - m := by simpa using h2
  obtain ⟨g1, g2⟩ := h m (by omega) h1
  refine ⟨by rw [g1, Nat.div_div_eq_div_mul, Nat.pow_succ], fun j hj1 hj2 => ?_⟩
  by_cases hji : j = i
  · subst hji
    rw [List.getElem?_set_self (by omega), g1, show 17 - j = m by omega]
  · rw [List.getElem?_set_ne (Ne.symm hji)]
    exact g2 j (by omega) hj2
/-- The digit at a place of eighteen. -/
def digAt (n j : Nat) : Nat := 48 + n / 10 ^ (17 - j) % 10
/-- The digits of a number, the highest one first. -/
def textL (n : Nat) : List UInt8 := Lib.trimLeftB (((List.range 18).map (digAt n)).map UInt8.ofNat) 48
set_option maxRecDepth 100000 in
set_option maxHeartbeats 2000000 in
theorem text_small {w : World} {a : Value} {n : Nat} (ha : NC w a n) (h0 : 0 < n) (hn : n < 1000000000000000000) (ht : textL n ≠ []) : Calls Tryz.prog 117 #[a] w (Makes w fun v _ => v = .string ⟨(textL n).toArray⟩) := by
  have HTX : Hid (∀ s t, s = ((List.range 18).map (digAt n)).map UInt8.ofNat → Lib.trimLeftB s 48 = t → t ≠ []) := fun s t h1 h2 => by subst h1; subst h2; exact ht
  obtain ⟨TX, hTX⟩ : ∃ T, textL n = T := ⟨_, rfl⟩
  have HTE := Lib.hid hTX
  rw [hTX]
  clear ht hTX
  obtain ⟨p, c, rfl, hr, -⟩ := ha
  have hnB : n < B64 := lt64 (by omega)
  rw [lim_small b64_two h0 hnB] at hr ⊢
  have HTR : Hid (∀ X (_ : Bel w X), _) := fun X hX => trim_any p c [n] X (hr.bel hX) (by simp)
  rw [show trimL [n] = [n] by rw [← lim_small b64_two h0 hnB]; exact trim_lim b64_two n] at HTR
  have HSM : Hid (∀ X (_ : Bel w X), _) := fun X hX => small_any p c 1000000000000000000 [n] X (hr.bel hX) (by simp) (by decide) (by decide)
  rw [show valB B64 [n] = n by simp [valB], Nat.div_eq_of_lt hn, Nat.mod_eq_of_lt hn, lim_zero] at HSM
  simp only [List.length_cons, List.length_nil, Nat.zero_add] at HTR HSM ⊢
  rw [show ((1000000000000000000 : Nat) : Int) = 1000000000000000000 from rfl] at HSM
  have hmk := made18
  have HBK := Lib.hid (fun B wx => backward_any8 (some ⟨B, 0, none⟩) 18 18 wx)
  clear hr h0 hnB
  refine (callsIn_wide (n := 6)).1 ?_
  refine callsIn_of_wp_marks Tryz.func117 rfl trivial ?_ rfl
  simp only [Tryz.ntmps117, List.size_toArray, List.length_cons, List.length_nil, Nat.reduceAdd, Nat.reduceSub, Array.replicate_succ, Array.replicate_zero, List.push_toArray, List.append_toArray, List.nil_append, List.cons_append]
  rw [wpIn_wide]
  go_wp2_with (go_at_call 157; (with_reducible refine (HTR.out _ ((Bel.refl w).alloc _)).mono ?_); rintro e w2 ⟨rfl, hw2⟩; obtain rfl := hw2.symm; clear hw2)
  obtain ⟨W1, hW1⟩ : ∃ W', w.alloc (.cells #[.int .u32 0, .int .i32 0, .int .u32 0, .int .u64 0, .int .u64 0, .int .u64 0, .int .u64 0, .int .u64 0, .int .u64 0, .int .u64 0, .int .u64 0, .int .u64 0, .int .u64 0, .int .u64 0, .int .u64 0, .int .u64 0, .int .u64 0, .int .u64 0, .int .u64 0, .int .u64 0, .int .u64 0, .int .u64 0] 191 (0, 0)) = W' := ⟨_, rfl⟩
  obtain ⟨T, hTT⟩ : ∃ T, w.heap.size = T := ⟨_, rfl⟩
  have hT := heap_alloc_new w (.cells #[.int .u32 0, .int .i32 0, .int .u32 0, .int .u64 0, .int .u64 0, .int .u64 0, .int .u64 0, .int .u64 0, .int .u64 0, .int .u64 0, .int .u64 0, .int .u64 0, .int .u64 0, .int .u64 0, .int .u64 0, .int .u64 0, .int .u64 0, .int .u64 0, .int .u64 0, .int .u64 0, .int .u64 0, .int .u64 0] 191 (0, 0))
  have hb1 := (Bel.refl w).alloc (.cells #[.int .u32 0, .int .i32 0, .int .u32 0, .int .u64 0, .int .u64 0, .int .u64 0, .int .u64 0, .int .u64 0, .int .u64 0, .int .u64 0, .int .u64 0, .int .u64 0, .int .u64 0, .int .u64 0, .int .u64 0, .int .u64 0, .int .u64 0, .int .u64 0, .int .u64 0, .int .u64 0, .int .u64 0, .int .u64 0] 191 (0, 0))
  rw [hW1] at hT hb1 ⊢
  rw [hTT] at hT ⊢
  have HPW := Lib.hid (power_any T W1 (heap_cell hT 0) (heap_cell hT 1) (fun j hj => by
    match j, hj with
    | 0, _ => exact ⟨0, heap_cell hT (3 + 0)⟩
    | 1, _ => exact ⟨0, heap_cell hT (3 + 1)⟩
    | 2, _ => exact ⟨0, heap_cell hT (3 + 2)⟩
    | 3, _ => exact ⟨0, heap_cell hT (3 + 3)⟩
    | 4, _ => exact ⟨0, heap_cell hT (3 + 4)⟩
    | 5, _ => exact ⟨0, heap_cell hT (3 + 5)⟩
    | 6, _ => exact ⟨0, heap_cell hT (3 + 6)⟩
    | 7, _ => exact ⟨0, heap_cell hT (3 + 7)⟩
    | 8, _ => exact ⟨0, heap_cell hT (3 + 8)⟩
    | 9, _ => exact ⟨0, heap_cell hT (3 + 9)⟩
    | 10, _ => exact ⟨0, heap_cell hT (3 + 10)⟩
    | 11, _ => exact ⟨0, heap_cell hT (3 + 11)⟩
    | 12, _ => exact ⟨0, heap_cell hT (3 + 12)⟩
    | 13, _ => exact ⟨0, heap_cell hT (3 + 13)⟩
    | 14, _ => exact ⟨0, heap_cell hT (3 + 14)⟩
    | 15, _ => exact ⟨0, heap_cell hT (3 + 15)⟩
    | 16, _ => exact ⟨0, heap_cell hT (3 + 16)⟩
    | 17, _ => exact ⟨0, heap_cell hT (3 + 17)⟩
    | 18, _ => exact ⟨0, heap_cell hT (3 + 18)⟩
    | j + 19, hj => exact absurd hj (by omega)) (fun j => heap_frozen hT j))
  have HB1 := Lib.hid hb1
  have HTS : Hid (w.heap.size ≤ T) := Nat.le_of_eq hTT
  clear hT hb1 hW1
  refine wp_loop_rounds 2 ?_
  unfold Code.rounds
  go_upto_block 2 with (first
    | (go_at_call 162; (with_reducible refine HPW.out.mono ?_); rintro e w3 ⟨rfl, hk3⟩; have HB3 := Lib.hid (hk3.bel HB1.out HTS.out); clear hk3)
    | (go_at_call 161; (with_reducible refine (HSM.out _ HB3.out).mono ?_); rintro e w4 ⟨q, cq, rfl, -, hb4⟩; have HB4 := Lib.hid (HB3.out.trans hb4); clear hb4)
    | (go_at_call 163; (with_reducible refine (HBK.out _ _).mono ?_); rintro e w5 ⟨rfl, hw5⟩; obtain rfl := hw5.symm; clear hw5))
  obtain ⟨X6, hX6⟩ : ∃ X, w4.heap.size = X := ⟨_, rfl⟩
  obtain ⟨Y5, hY5⟩ : ∃ Y, ((w4.alloc (.cells #[.int .u64 (n : Int)] 105)).alloc (.cells (madeCells #[.int .u8 0] 18) 5)).alloc (.cells #[.slice (some ⟨w4.heap.size + 1, 0, none⟩) 18 18] 196) = Y := ⟨_, rfl⟩
  rw [hY5, hX6]
  refine wp_block ?_
  refine (wpIn_wide (n := 6)).1 ?_
  obtain ⟨B, hB⟩ : ∃ B, X6 + 1 = B := ⟨_, rfl⟩
  obtain ⟨X7, hX7⟩ : ∃ Z, B + 1 = Z := ⟨_, rfl⟩
  obtain ⟨S, hS⟩ : ∃ Z, X7 + 1 = Z := ⟨_, rfl⟩
  rw [hB, hX7, hS]
  obtain ⟨Z, hZ⟩ : ∃ Z, Y5.alloc (.cells #[.slice (some ⟨B, 0, none⟩) 18 18] 196) = Z := ⟨_, rfl⟩
  rw [hZ]
  have s1 : (w4.alloc (.cells #[.int .u64 (n : Int)] 105)).heap.size = B := by rw [World.size_alloc, hX6, hB]
  have s2 : ((w4.alloc (.cells #[.int .u64 (n : Int)] 105)).alloc (.cells (madeCells #[.int .u8 0] 18) 5)).heap.size = X7 := by rw [World.size_alloc, s1, hX7]
  have hB' : w4.heap.size + 1 = B := by omega
  have hY5s : Y5.heap.size = S := by rw [← hY5, World.size_alloc, s2, hS]
  have hBY : Bel w Y5 := hY5 ▸ ((HB4.out.alloc _).alloc _).alloc _
  have hBZ : Bel w Z := hZ ▸ hBY.alloc _
  have hYZ : Bel Y5 Z := hZ ▸ (Bel.refl _).alloc _
  have hR : Z.heap[X6]? = some (.cells #[.int .u64 (n : Int)] 105 (0, 0)) := hYZ.heap (hY5 ▸ heap_push_of (heap_push_of (alloc_heap hX6) _) _)
  have hD0 : madeCells #[.int .u8 0] 18 = ((List.replicate 18 0).map (lmV .u8)).toArray := by kernel_rfl
  have hDG : Z.heap[B]? = some (.cells ((List.replicate 18 0).map (lmV .u8)).toArray 5 (0, 0)) := hYZ.heap (by rw [← hY5, ← hD0]; exact heap_push_of (alloc_heap s1) _)
  have hO : Z.heap[X7]? = some (.cells #[.slice (some ⟨B, 0, none⟩) 18 18] 196 (0, 0)) := hYZ.heap (by rw [← hY5, hB']; exact alloc_heap s2)
  have hSc : Z.heap[S]? = some (.cells #[.slice (some ⟨B, 0, none⟩) 18 18] 196 (0, 0)) := hZ ▸ alloc_heap hY5s
  have hSZ : S < Z.heap.size := heap_lt hSc
  have hBZs : B < Z.heap.size := heap_lt hDG
  refine wpIn_rangeFunc_ownG rfl (by omega) (gf := 192) (lb := #[.pointer (some ⟨S, 0, none⟩)]) rfl trivial (enters_of Tryz.func192 (by kernel_rfl) rfl)
    (back_stops8 5 (by omega) S (some ⟨B, 0, none⟩) B 0 18 18 (by omega) (fun _ => rfl) Z hSZ (fun _ => hBZs) (by rw [heap_cell hSc]; rfl) (fun j hj => ⟨0, by
      rw [Nat.zero_add, heap_cell hDG, List.getElem?_toArray, List.getElem?_map, List.getElem?_replicate, if_pos hj]
      rfl⟩))
    KpB.trans (fun W' l' o' o'' hl' _ _ _ => KpB.put hSZ hBZs W' l' o'' hl') (Below.refl _ _) (fun _ => rfl)
    (fun pre W' => (∃ (o : List Nat) (r : Nat), o.length = 18 ∧ (AllB 256 o ∧ r ≤ n) ∧ (∀ k, k ≤ 18 → pre.map plN = (downs 18).take k → r = n / 10 ^ k ∧ ∀ j, 18 - k ≤ j → j < 18 → o[j]? = some (digAt n j)) ∧
        W'.heap[B]? = some (.cells (o.map (lmV .u8)).toArray 5 (0, 0)) ∧ W'.heap[X6]? = some (.cells #[.int .u64 (r : Int)] 105 (0, 0)) ∧ W'.heap[X7]? = some (.cells #[.slice (some ⟨B, 0, none⟩) 18 18] 196 (0, 0))) ∧ Bel w W')
    (fun _ _ _ => False)
    (OwnFrom.and (Own.from (fun s A B row hs hg hr => by
      obtain ⟨o, r, e1, e2, e3, e4, e5, e6⟩ := hs
      exact ⟨o, r, e1, e2, e3, heap_kept hg hr e4, heap_kept hg hr e5, heap_kept hg hr e6⟩) _) (ownFrom_below (Nat.le_refl _) hBZ.size))
    (fun c _ _ _ _ hs _ _ => hs)
    ⟨⟨List.replicate 18 0, n, by simp, ⟨fun x hx => by rw [List.mem_replicate] at hx; omega, Nat.le_refl _⟩, fun k hk hpre => by
      have := congrArg List.length hpre
      rw [List.length_take, downs_len] at this
      simp at this
      obtain rfl : k = 0 := by omega
      exact ⟨by simp, fun j h1 h2 => by omega⟩, hDG, hR, hO⟩, hBZ⟩
    (fun x => { tmps := #[.slice p 1 c, undef, .string ⟨#[]⟩, .pointer (some ⟨T, 0, none⟩), .slice none 0 0, .slice q 0 cq, .pointer (some ⟨X6, 0, none⟩), .pointer (some ⟨X7, 0, none⟩), .int .i64 (plN x : Int), undef, .slice p 1 c, .slice p 1 c, .slice p 1 c, .int .i64 1, .bool true, .tuple #[.slice q 0 cq, .int .u64 (n : Int)], .slice p 1 c, .int .u64 1000000000000000000, .tuple #[.slice q 0 cq, .int .u64 (n : Int)], .slice q 0 cq, .int .u64 (n : Int), .slice (some ⟨B, 0, none⟩) 18 18, .slice (some ⟨B, 0, none⟩) 18 18, .func (.func 192) #[] #[.pointer (some ⟨S, 0, none⟩)], .int .i64 (plN x : Int), .int .u8 x.1.2, undef, undef, undef, undef, undef, undef, undef, undef, undef, undef, undef, undef, undef, undef, undef, undef, undef, undef, undef, undef, undef, undef, undef], defers := [] }) ?assign ?body ?done ?stop
  case assign =>
    intro l x W' K hK
    gi_wp2
    exact hK
  case body =>
    rintro lq pre x W' ⟨⟨o, r, e1, ⟨e2, hrn⟩, e3, e4, e5, e6⟩, hBw⟩ _
    have hx := x.2
    obtain ⟨i, hi⟩ : ∃ i, plN x = i := ⟨_, rfl⟩
    have hiL : i < 18 := by rw [← hi]; exact hx
    rw [hi]
    obtain ⟨y, hy⟩ : ∃ y, o[i]? = some y := ⟨_, List.getElem?_eq_getElem (by omega)⟩
    have q1 : W'.cell? ⟨B, i, none⟩ = some (.int .u8 (y : Int)) := by
      rw [heap_cell e4, List.getElem?_toArray, List.getElem?_map, hy]
      rfl
    have q2 : W'.frozen? ⟨B, i, none⟩ = false := heap_frozen e4 i
    have q3 : W'.cell? ⟨X6, 0, none⟩ = some (.int .u64 (r : Int)) := by rw [heap_cell e5]; rfl
    have q4 : W'.frozen? ⟨X6, 0, none⟩ = false := heap_frozen e5 0
    have q5 : W'.cell? ⟨X7, 0, none⟩ = some (.slice (some ⟨B, 0, none⟩) 18 18) := by rw [heap_cell e6]; rfl
    obtain ⟨DG, hDg⟩ : ∃ d, 48 + r % 10 = d := ⟨_, rfl⟩
    obtain ⟨R2, hR2⟩ : ∃ d, r / 10 = d := ⟨_, rfl⟩
    have m1 : (48 : Int) + (r : Int) % 10 = (DG : Int) := by omega
    have m2 : IntKind.u8.wrap (DG : Int) = (DG : Int) := by rw [IntKind.wrap_u8]; omega
    have m3 : (r : Int) / 10 = (R2 : Int) := by omega
    have m4 : IntKind.u64.wrap (R2 : Int) = (R2 : Int) := by rw [IntKind.wrap_u64]; omega
    have hwX := HB4.out.size
    have hne : B ≠ X6 ∧ B ≠ X7 ∧ X6 ≠ X7 ∧ S ≠ X6 ∧ S ≠ B ∧ w.heap.size ≤ X6 ∧ w.heap.size ≤ B := by omega
    have HDG := Lib.hid hDg
    have HR2 := Lib.hid hR2
    have hdb : DG < 256 := by omega
    have HE3 := Lib.hid e3
    have HHI := Lib.hid hi
    clear e3 hX6 hY5 hB hX7 hS hZ s1 s2 hB' hY5s hD0 hi
    gi_wp2
    obtain ⟨k1, k2, k3, k4, k5, k6, k7⟩ := hne
    refine ⟨((KeepsOthers.setCell _ _ _).trans (KeepsOthers.setCell _ _ _)).from _, ⟨?_, fun j hj hI => ?_⟩, ⟨o.set i DG, R2, by rw [List.length_set]; exact e1, ⟨all_set e2 hdb, by omega⟩, ?_, ?_, ?_, ?_⟩, ?_⟩
    · rw [World.cell?_setCell_far _ _ _ _ (by simp; omega), World.cell?_setCell_far _ _ _ _ (by simp; omega)]
    · rw [World.cell?_setCell_far _ _ _ _ (by simp; omega)]
      by_cases hji : j = i
      · subst hji
        rw [Nat.zero_add, World.cell?_setCell_same' _ _ _ (by rw [q1]; rfl)]
        exact ⟨_, rfl⟩
      · rw [World.cell?_setCell_other _ _ _ _ (by simp <;> omega)]
        exact hI
    · intro k hk hp
      rw [List.map_append, List.map_singleton, HHI.out] at hp
      have := text_next e1 hiL (fun k hk hp => HE3.out k hk hp) hk hp
      rw [HDG.out, HR2.out] at this
      exact this
    · exact heap_other (p := ⟨X6, 0, none⟩) (heap_set_map e4) (Ne.symm k1) _
    · exact heap_put (heap_other (p := ⟨B, i, none⟩) e5 k1 _) _
    · exact heap_other (p := ⟨X6, 0, none⟩) (heap_other (p := ⟨B, i, none⟩) e6 k2 _) k3 _
    · exact (hBw.set (p := ⟨B, i, none⟩) k7 _).set (p := ⟨X6, 0, none⟩) k6 _
  case done =>
    rintro D ys W hD hys ⟨⟨o, r, e1, ⟨e2, hrn⟩, e3, e4, e5, e6⟩, hBw⟩ hK
    have g7 : W.cell? ⟨X7, 0, none⟩ = some (.slice (some ⟨B, 0, none⟩) 18 18) := by rw [heap_cell e6]; rfl
    have hlen : (o.map UInt8.ofNat).length = 18 := by rw [List.length_map, e1]
    have hcv := run_convert_bytes_back (P := Tryz.prog) W 196 9 5 ⟨B, 0, none⟩ 18 (o.map UInt8.ofNat) Tryz.underlying196 Tryz.underlying5 Tryz.underlying9 (fun j hj => by
      have hj' : j < o.length := by simpa using hj
      rw [Addr.add_lit, Nat.zero_add, heap_cell e4, List.getElem?_toArray, List.getElem?_map, List.getElem?_eq_getElem hj', List.getElem_map]
      have hlt := e2 o[j] (List.getElem_mem hj')
      simp only [Option.map_some, lmV, UInt8.toNat_ofNat']
      rw [Nat.mod_eq_of_lt hlt])
    rw [hlen] at hcv
    have hdg : o = (List.range 18).map (digAt n) := by
      obtain ⟨-, h⟩ := e3 18 (Nat.le_refl _) (by rw [hys, List.take_of_length_le (by rw [downs_len]; exact Nat.le_refl _)])
      refine List.ext_getElem? fun j => ?_
      by_cases hj : j < 18
      · rw [h j (by omega) hj, List.getElem?_map, List.getElem?_range hj]; rfl
      · rw [List.getElem?_eq_none (by omega), List.getElem?_eq_none (by simp; omega)]
    obtain ⟨SL, hSL⟩ : ∃ l, o.map UInt8.ofNat = l := ⟨_, rfl⟩
    rw [hSL] at hcv
    have HSD : Hid (SL = ((List.range 18).map (digAt n)).map UInt8.ofNat) := by rw [← hdg]; exact hSL.symm
    clear hdg
    clear hR hDG hO hSc e3 hX6 hY5 hB hX7 hS hZ
    go_wp2
    unfold Code.rounds
    go_upto_region 13 with fail
    generalize hV : World.drew _ = V
    obtain ⟨G, hG⟩ : ∃ G, W.heap.size + 1 = G := ⟨_, rfl⟩
    have hVc : V.cell? ⟨W.heap.size + 1, 0, none⟩ = some (.string ⟨SL.toArray⟩) := by
      rw [← hV]
      simp [go_sem]
      rw [Array.getElem?_append_left (by simp)]
      rfl
    have hVf : V.frozen? ⟨W.heap.size + 1, 0, none⟩ = false := by rw [← hV]; simp [go_sem]
    have hVB : Bel w V := by rw [← hV]; exact ((hBw.alloc _).alloc _).drew
    have hVK : V.heap[D]? = some (.deferred (some [])) := by rw [← hV]; exact Bel.heap (((Bel.refl W).alloc _).alloc _).drew hK
    rw [hG] at hVc hVf ⊢
    have HRV := Lib.hid (fun c => Tryz.slices_Reverse_string_cells G 0 1 c (fun _ => ⟨SL.toArray⟩) V (by decide) (fun i hi => by
      obtain rfl : i = 0 := by omega
      exact hVc) (fun j hj => by
      obtain rfl : j = 0 := by omega
      exact hVf))
    have hwG : w.heap.size ≤ G := by have := hBw.size; omega
    have HVC := Lib.hid hVc
    have HSL : Hid (SL.length = 18) := by rw [← hSL]; exact hlen
    clear hV hVc hVf
    go_upto_region 14 with (go_at_call 164; (with_reducible refine (HRV.out _).mono ?_); rintro e w6 ⟨rfl, q6, hw6⟩; have HW6 := Lib.hid hw6; clear hw6)
    have h6 : w6 = (V.drewN q6).setCell ⟨G, 0, none⟩ (.string ⟨SL.toArray⟩) := HW6.out
    have hbw6 : Bel w w6 := by rw [h6]; exact (Bel.drewN hVB q6).set (p := ⟨G, 0, none⟩) hwG _
    have hc6 : w6.cell? ⟨G, 0 + 0, none⟩ = some (.string ⟨SL.toArray⟩) := by rw [h6]; exact World.cell?_setCell_same' _ _ _ (by rw [show (V.drewN q6).cell? ⟨G, 0, none⟩ = V.cell? ⟨G, 0, none⟩ from rfl, HVC.out]; rfl)
    have hGs : G < w6.heap.size := World.block_lt_of_cell? w6 _ hc6
    have HJ : Hid (∀ c, 1 ≤ c → Calls Tryz.prog 166 #[.slice (some ⟨G, 0, none⟩) 1 c, .string ⟨#[]⟩] w6 fun e w' => e = .returned (.string ⟨(Lib.join ([(⟨SL.toArray⟩ : ByteArray)].map (·.data.toList)) (⟨#[]⟩ : ByteArray).data.toList).toArray⟩) ∧ Below w6.heap.size w6 w') := Lib.hid (fun c (hc : 1 ≤ c) => Tryz.strings_Join G 0 c [⟨SL.toArray⟩] ⟨#[]⟩ w6 (fun j x hj => by
      match j, hj with
      | 0, hj => simp at hj; subst hj; exact hc6
      | j + 1, hj => simp at hj) hGs (by simp) hc (by simp [Lib.join]; have := HSL.out; omega))
    clear h6
    have hcc : 1 ≤ (Question.appendCap 1 0 9).cut (W.tape W.drawn (Question.appendCap 1 0 9)) := grownCap_ge W 1 0 9
    go_upto_region 15 with (first
      | (go_at_call 166; (with_reducible refine (HJ.out _ hcc).mono ?_); rintro e w7 ⟨rfl, hb7⟩; have HB7 := Lib.hid (Bel.trans hbw6 hb7); have HB67 : Hid (Bel w6 w7) := hb7; clear hb7)
      | (go_at_call 165; (with_reducible refine (Tryz.strings_TrimLeft_one _ 48 (by decide) _).mono ?_); rintro e w8 ⟨rfl, hw8⟩; obtain rfl := hw8.symm; clear hw8))
    have e1 : Lib.join [SL] [] = SL := by simp [Lib.join]
    rw [e1]
    obtain ⟨TL, hTL⟩ : ∃ T, Lib.trimLeftB SL 48 = T := ⟨_, rfl⟩
    rw [hTL]
    have hne : (!TL.isEmpty) = true := by
      have := HTX.out _ _ HSD.out hTL
      cases TL with
      | nil => exact absurd rfl this
      | cons => rfl
    have HTL : Hid (TL = TX) := by
      unfold Hid
      rw [← hTL, HSD.out]
      exact HTE.out
    clear hTL e1
    have hDW : D < W.heap.size := heap_lt hK
    have hK6 : w6.heap[D]? = some (.deferred (some [])) := by
      rw [HW6.out]
      exact heap_other (p := ⟨G, 0, none⟩) (show (V.drewN q6).heap[D]? = _ from hVK) (by dsimp only; omega) _
    have hK7 : w7.heap[D]? = some (.deferred (some [])) := HB67.out.heap hK6
    have hwD : w.heap.size ≤ D := by have := HTS.out; have := HB4.out.size; omega
    clear hK6 hVK HJ HRV hcc hcv
    go_wp2
    refine ⟨by simp, .inl ⟨_, _, rfl, run_takeDeferred hK7, ?_⟩⟩
    refine ⟨.string ⟨TL.toArray⟩, ?_, ⟨_, rfl, Below.trans HB7.out (belowK_b (w := w) (Nat.le_refl _) w7 D _ _ hwD hK7 rfl rfl), by rw [HTL.out]⟩⟩
    simp [results, Tryz.results117, go_sem]
  case stop =>
    rintro D c pre W _ _ h _
    exact h.elim
end Go.Proofs.YtafmfnpjhhaikaaGreatDoor
namespace Go.Proofs.YtafmfnpjhhaikaaGreatDoor
open Go.RowKit Go.Shelf
/-- The limbs that stand in cells stay. -/
def Lim (w w' : World) : Prop := ∀ (b o : Nat) (x : Int), (w.cell? ⟨b, o, none⟩ = some (.int .u64 x) → w'.cell? ⟨b, o, none⟩ = some (.int .u64 x)) ∧ (w.cell? ⟨b, o, none⟩ = some (.int .u32 x) → w'.cell? ⟨b, o, none⟩ = some (.int .u32 x))
theorem Lim.refl (w : World) : Lim w w := fun _ _ _ => ⟨id, id⟩
theorem Lim.trans {a b c : World} (h : Lim a b) (k : Lim b c) : Lim a c := fun b o x => ⟨fun e => (k b o x).1 ((h b o x).1 e), fun e => (k b o x).2 ((h b o x).2 e)⟩
theorem Bel.lim {w w' : World} (h : Bel w w') : Lim w w' := fun _ _ _ => ⟨fun e => h.cell e, fun e => h.cell e⟩
/-- No limbs. -/
def noNum : List Value → Bool
  | [] => true
  | .int .u64 _ :: _ => false
  | .int .u32 _ :: _ => false
  | _ :: l => noNum l
theorem noNum_at : ∀ {l : List Value} {i : Nat} {x : Int}, noNum l = true → l[i]? ≠ some (.int .u64 x) ∧ l[i]? ≠ some (.int .u32 x)
  | [], _, _, _ => by simp
  | v :: l, i, x, h => by
    have h' : noNum l = true ∧ v ≠ .int .u64 x ∧ v ≠ .int .u32 x := by
      cases v with
      | int k y => cases k <;> first | (simp [noNum] at h; done) | exact ⟨h, by simp, by simp⟩
      | _ => exact ⟨h, by simp, by simp⟩
    cases i with
    | zero => simp [h'.2.1, h'.2.2]
    | succ i => simpa using noNum_at (l := l) (i := i) (x := x) h'.1
theorem Lim.of_only {b t : Nat} {w w' : World} {cs : Array Value} {fr : Nat × Nat} (ho : OnlyG b w w') (hb : w.heap[b]? = some (.cells cs t fr)) (hn : noNum cs.toList = true) : Lim w w' := fun b' o x => by
  by_cases hbb : b' = b
  · subst hbb
    have e : w.cell? ⟨b', o, none⟩ = cs.toList[o]? := by simp [World.cell?, hb]
    rw [e]
    have := noNum_at (i := o) (x := x) hn
    exact ⟨fun h => absurd h this.1, fun h => absurd h this.2⟩
  · rw [World.cell?_of_block (a := ⟨b', o, none⟩) (ho.2 b' hbb)]
    exact ⟨id, id⟩
theorem R64.lim {w w' : World} {v : Value} {l : List Nat} (h : R64 w v l) (hl : Lim w w') : R64 w' v l := by
  obtain ⟨p, c, h1, h2, h3, h4⟩ := h
  refine ⟨p, c, h1, h2, h3, fun hne => ?_⟩
  obtain ⟨b, o, h5, h6⟩ := h4 hne
  exact ⟨b, o, h5, fun j x hj => (hl _ _ _).1 (h6 j x hj)⟩
theorem R32.lim {w w' : World} {v : Value} {l : List Nat} (h : R32 w v l) (hl : Lim w w') : R32 w' v l := by
  obtain ⟨p, c, h1, h2, h3, h4⟩ := h
  refine ⟨p, c, h1, h2, h3, fun hne => ?_⟩
  obtain ⟨b, o, h5, h6⟩ := h4 hne
  exact ⟨b, o, h5, fun j x hj => (hl _ _ _).2 (h6 j x hj)⟩
section
variable {w w' : World} {v : Value}
theorem NI.lim {n : Nat} (h : NI w v n) (hl : Lim w w') : NI w' v n := by
  obtain ⟨p, c, l, h1, h2, h3⟩ := h
  exact ⟨p, c, l, h1, R64.lim h2 hl, h3⟩
theorem NC.lim {n : Nat} (h : NC w v n) (hl : Lim w w') : NC w' v n := by
  obtain ⟨p, c, h1, h2, h3⟩ := h
  exact ⟨p, c, h1, R64.lim h2 hl, h3⟩
theorem ZI.lim {x : Int} (h : ZI w v x) (hl : Lim w w') : ZI w' v x := by
  obtain ⟨s, u, n, h1, h2, h3⟩ := h
  exact ⟨s, u, n, h1, h2.lim hl, h3⟩
theorem ZC.lim {x : Int} (h : ZC w v x) (hl : Lim w w') : ZC w' v x := by
  obtain ⟨u, h1, h2⟩ := h
  exact ⟨u, h1, h2.lim hl⟩
theorem RI.lim {q : Rat} (h : RI w v q) (hl : Lim w w') : RI w' v q := by
  obtain ⟨s, u, d, m, n, h1, h2, h3, h4⟩ := h
  exact ⟨s, u, d, m, n, h1, h2.lim hl, h3.lim hl, h4⟩
theorem RC.lim {q : Rat} (h : RC w v q) (hl : Lim w w') : RC w' v q := by
  obtain ⟨u, d, h1, h2, h3⟩ := h
  exact ⟨u, d, h1, h2.lim hl, h3.lim hl⟩
theorem RS.lim {k : Nat} {q : Rat} (h : RS k w v q) (hl : Lim w w') : RS k w' v q := ⟨h.1.lim hl, h.2⟩
theorem NR.lim {n : Nat} (h : NR w v n) (hl : Lim w w') : NR w' v n := by
  obtain ⟨p, c, h1, h2, h3⟩ := h
  exact ⟨p, c, h1, R32.lim h2 hl, h3⟩
theorem RZ.lim {x : Int} (h : RZ w v x) (hl : Lim w w') : RZ w' v x := by
  obtain ⟨u, h1, h2⟩ := h
  exact ⟨u, h1, h2.lim hl⟩
theorem RQ.lim {q : Rat} (h : RQ w v q) (hl : Lim w w') : RQ w' v q := by
  obtain ⟨u, d, h1, h2, h3⟩ := h
  exact ⟨u, d, h1, h2.lim hl, h3.lim hl⟩
theorem RP.lim {x y : Rat} (h : RP w v x y) (hl : Lim w w') : RP w' v x y := by
  obtain ⟨s1, u1, d1, s2, u2, d2, h0, h1, h2⟩ := h
  exact ⟨s1, u1, d1, s2, u2, d2, h0, h1.lim hl, h2.lim hl⟩
theorem PC.lim {x y : Rat} (h : PC w v x y) (hl : Lim w w') : PC w' v x y := by
  obtain ⟨s1, u1, d1, s2, u2, d2, h0, h1, h2⟩ := h
  exact ⟨s1, u1, d1, s2, u2, d2, h0, h1.lim hl, h2.lim hl⟩
theorem PS.lim {k : Nat} {x y : Rat} (h : PS k w v x y) (hl : Lim w w') : PS k w' v x y := by
  obtain ⟨s1, u1, d1, s2, u2, d2, h0, h1, h2⟩ := h
  exact ⟨s1, u1, d1, s2, u2, d2, h0, h1.lim hl, h2.lim hl⟩
end
/-- What a store in a box of the call's own leaves. -/
structure Sto (w w1 W : World) (X t : Nat) (vs : List Value) : Prop where
  heap : W.heap[X]? = some (.cells vs.toArray t (0, 0))
  bel : Bel w W
  lim : Lim w1 W
  oth : ∀ (r : Nat) (o : Obj), r ≠ X → w1.heap[r]? = some o → W.heap[r]? = some o
theorem sto {w w1 : World} {X t : Nat} {cs : Array Value} (vs : List Value) (h : w1.heap[X]? = some (.cells cs t (0, 0))) (hl : cs.size = vs.length) (hn : noNum cs.toList = true) (hb : Bel w w1) (hge : w.heap.size ≤ X) : Sto w w1 (setAll w1 X 0 vs) X t vs := by
  obtain ⟨k1, k2, k3⟩ := setAll_box h vs hl hb hge
  exact ⟨k1, k3, Lim.of_only k2 h hn, fun r o hr hx => (k2.2 r hr).trans hx⟩
def splice : List Value → Nat → List Value → List Value
  | L, _, [] => L
  | L, o, v :: r => splice (L.set o v) (o + 1) r
theorem setCells_heap {b t : Nat} : ∀ (vs : List Value) (o : Nat) (L : List Value) (w : World), w.heap[b]? = some (.cells L.toArray t (0, 0)) → (w.setCells b o vs).heap[b]? = some (.cells (splice L o vs).toArray t (0, 0))
  | [], _, _, _, h => h
  | v :: r, o, L, w, h => setCells_heap r (o + 1) (L.set o v) _ (by simp [World.setCell, Array.getElem?_modify, h])
theorem setCells_only {b : Nat} {w : World} : ∀ (vs : List Value) (o : Nat) (w1 : World), OnlyG b w w1 → OnlyG b w (w1.setCells b o vs)
  | [], _, _, h => h
  | v :: r, o, _, h => setCells_only r (o + 1) _ (h.set o v)
theorem setCells_rest (b : Nat) : ∀ (vs : List Value) (o : Nat) (w : World), (w.setCells b o vs).os = w.os ∧ (w.setCells b o vs).tape = w.tape ∧ (w.setCells b o vs).output = w.output
  | [], _, _ => ⟨rfl, rfl, rfl⟩
  | v :: r, o, w => setCells_rest b r (o + 1) (w.setCell ⟨b, o, none⟩ v)
theorem stoM {w w1 : World} {X t : Nat} {cs : Array Value} (off : Nat) (vs new : List Value) (h : w1.heap[X]? = some (.cells cs t (0, 0))) (hb : Bel w w1) (hs : splice cs.toList off vs = new) (hn : noNum cs.toList = true) (hge : w.heap.size ≤ X) : Sto w w1 (w1.setCells X off vs) X t new := by
  have ho := setCells_only vs off w1 (OnlyG.refl X w1)
  obtain ⟨r1, r2, r3⟩ := setCells_rest X vs off w1
  refine ⟨?_, hb.only ho hge r1 r2 r3, Lim.of_only ho h hn, fun r o hr hx => (ho.2 r hr).trans hx⟩
  rw [← hs]
  exact setCells_heap vs off cs.toList w1 (by simpa using h)
theorem there_of {w : World} {X t : Nat} {cs : Array Value} (h : w.heap[X]? = some (.cells cs t (0, 0))) {off n : Nat} (hl : off + n ≤ cs.size) : w.there X off n := fun j hj => by
  rw [heap_cell h, heap_frozen h]
  exact ⟨by rw [Array.getElem?_eq_getElem (by omega)]; rfl, rfl⟩
section
variable {P : Program} {ops : Array Oper} {rest : List Oper} {o : Oper} {a : Act} {w : World} {Q : Exit → Act → World → Prop} {X off t : Nat} {cs vs : Array Value} {d : TypeDesc} {x y : Operand} {ty : TypeId}
end
/-- A fraction in its lowest terms, its limbs counted. -/
def RN (k : Nat) (w : World) (v : Value) (q : Rat) : Prop := RC w v q ∧ Sz k q
def PN (k : Nat) (w : World) (v : Value) (x y : Rat) : Prop := PC w v x y ∧ Sz k x ∧ Sz k y
section
variable {w w' : World} {v : Value} {k : Nat} {q x y : Rat}
theorem RN.lim (h : RN k w v q) (hl : Lim w w') : RN k w' v q := ⟨h.1.lim hl, h.2⟩
theorem RN.bel (h : RN k w v q) (hb : Bel w w') : RN k w' v q := ⟨h.1.bel hb, h.2⟩
theorem RN.rs (h : RN k w v q) (hk : k ≤ LimK) : RS k w v q := h.1.rs h.2 hk
theorem PN.lim (h : PN k w v x y) (hl : Lim w w') : PN k w' v x y := ⟨h.1.lim hl, h.2⟩
theorem PN.bel (h : PN k w v x y) (hb : Bel w w') : PN k w' v x y := ⟨h.1.bel hb, h.2⟩
theorem PN.ps (h : PN k w v x y) (hk : k ≤ LimK) : PS k w v x y := h.1.ps h.2.1 h.2.2 hk
theorem RN.parts (h : RN k w v q) : ∃ s p n c r m d, v = .agg #[.bool s, .slice p n c, .slice r m d] := by
  obtain ⟨p, n, c, r, m, d, rfl, -⟩ := h.1.slice
  exact ⟨_, _, _, _, _, _, _, rfl⟩
theorem PN.parts (h : PN k w v x y) : ∃ s1 p1 k1 c1 p2 k2 c2 s2 p3 k3 c3 p4 k4 c4, v = .agg #[.bool s1, .slice p1 k1 c1, .slice p2 k2 c2, .bool s2, .slice p3 k3 c3, .slice p4 k4 c4] ∧
    RN k w (.agg #[.bool s1, .slice p1 k1 c1, .slice p2 k2 c2]) x ∧ RN k w (.agg #[.bool s2, .slice p3 k3 c3, .slice p4 k4 c4]) y := by
  obtain ⟨h, hx, hy⟩ := h
  obtain ⟨p1, k1, c1, p2, k2, c2, p3, k3, c3, p4, k4, c4, rfl, h1, h2⟩ := h.slice
  exact ⟨_, _, _, _, _, _, _, _, _, _, _, _, _, _, rfl, ⟨h1, hx⟩, ⟨h2, hy⟩⟩
theorem RS.mono {m : Nat} (h : RS k w v q) (hm : k ≤ m) : RS m w v q := ⟨h.1, h.2.mono hm⟩
theorem RN.mono {m : Nat} (h : RN k w v q) (hm : k ≤ m) : RN m w v q := ⟨h.1, h.2.mono hm⟩
theorem PS.mono {m : Nat} (h : PS k w v x y) (hm : k ≤ m) : PS m w v x y := by
  obtain ⟨s1, u1, d1, s2, u2, d2, h0, h1, h2⟩ := h
  exact ⟨s1, u1, d1, s2, u2, d2, h0, h1.mono hm, h2.mono hm⟩
theorem PN.mono {m : Nat} (h : PN k w v x y) (hm : k ≤ m) : PN m w v x y := ⟨h.1, h.2.1.mono hm, h.2.2.mono hm⟩
theorem RS.sz (h : RS k w v q) : Sz k q := h.2
theorem PS.szx (h : PS k w v x y) : Sz k x := by
  obtain ⟨s1, u1, d1, s2, u2, d2, h0, h1, h2⟩ := h
  exact h1.2
theorem PS.szy (h : PS k w v x y) : Sz k y := by
  obtain ⟨s1, u1, d1, s2, u2, d2, h0, h1, h2⟩ := h
  exact h2.2
end
theorem Makes.imp {w w' : World} {Φ Ψ : Value → World → Prop} {e : Ending} (h : Makes w Φ e w') (hi : ∀ v, Φ v w' → Ψ v w') : Makes w Ψ e w' := by
  obtain ⟨v, h1, h2, h3⟩ := h
  exact ⟨v, h1, h2, hi v h3⟩
section
variable {w : World} {a b c : Value} {x y z x1 y1 x2 y2 x3 y3 : Rat} {i j m : Nat}
theorem au_radd (ha : RS i w a x) (hb : RS j w b y) (hl : i + j < LimK) : Calls Tryz.prog 47 #[a, b] w (Makes w fun v w' => RN (i + j + 1) w' v (x + y)) :=
  (mk_radd ha hb hl).mono fun _ _ h => h.imp fun _ h => ⟨h, ha.2.add hb.2⟩
theorem au_rsub (ha : RS i w a x) (hb : RS j w b y) (hl : i + j < LimK) : Calls Tryz.prog 49 #[a, b] w (Makes w fun v w' => RN (i + j + 1) w' v (x - y)) :=
  (mk_rsub ha hb hl).mono fun _ _ h => h.imp fun _ h => ⟨h, ha.2.sub hb.2⟩
theorem au_rmul (ha : RS i w a x) (hb : RS j w b y) (hl : i + j < LimK) : Calls Tryz.prog 48 #[a, b] w (Makes w fun v w' => RN (i + j) w' v (x * y)) :=
  (mk_rmul ha hb hl).mono fun _ _ h => h.imp fun _ h => ⟨h, ha.2.mul hb.2⟩
theorem au_rneg (ha : RS i w a x) (hl : i < LimK) : Calls Tryz.prog 50 #[a] w (Makes w fun v w' => RN i w' v (-x)) :=
  (mk_rneg ha hl).mono fun _ _ h => h.imp fun _ h => ⟨h, ha.2.neg⟩
theorem au_scale (ha : PS i w a x y) (hk : RS j w b z) (hl : i + j < LimK) : Calls Tryz.prog 25 #[a, b] w (Makes w fun v w' => PN (i + j) w' v (x * z) (y * z)) :=
  (mk_scale ha hk hl).mono fun _ _ h => h.imp fun _ h => ⟨h, ha.szx.mul hk.2, ha.szy.mul hk.2⟩
theorem au_P {p q : Int} (hp1 : -9223372036854775808 ≤ p) (hp2 : p < 9223372036854775808) (hq1 : -9223372036854775808 ≤ q) (hq2 : q < 9223372036854775808) (w : World) :
    Calls Tryz.prog 43 #[.int .i64 p, .int .i64 q] w (Makes w fun v w' => PN 1 w' v (p : Rat) (q : Rat)) := by
  have e : ∀ z : Int, mkRat z 1 = (z : Rat) := fun z => Rat.mkRat_one z
  have hs : ∀ z : Int, -9223372036854775808 ≤ z → z < 9223372036854775808 → Sz 1 (z : Rat) := fun z h1 h2 => ⟨by rw [Rat.num_intCast]; unfold B64; omega, by rw [Rat.den_intCast]; decide⟩
  refine (mk_P hp1 hp2 hq1 hq2 w).mono fun _ _ h => h.imp fun _ h => ?_
  rw [e, e] at h
  exact ⟨h, hs p hp1 hp2, hs q hq1 hq2⟩
end
theorem trimB_len (b : UInt8) (l : List UInt8) : (Lib.trimLeftB l b).length ≤ l.length := List.Sublist.length_le (List.dropWhile_sublist _)
theorem textL_len (n : Nat) : (textL n).length ≤ 18 := Nat.le_trans (trimB_len _ _) (by simp)
def textZ (x : Int) : List UInt8 := if x < 0 then 45 :: textL x.natAbs else textL x.natAbs
def textQ (q : Rat) : List UInt8 := if q.den = 1 then textZ q.num else textZ q.num ++ 47 :: textL q.den
set_option maxHeartbeats 1000000 in
set_option maxRecDepth 100000 in
theorem ztext_small {w : World} {a : Value} {x : Int} (ha : ZC w a x) (h0 : x ≠ 0) (hn : x.natAbs < 1000000000000000000) (ht : textL x.natAbs ≠ []) : Calls Tryz.prog 114 #[a] w (Makes w fun v _ => v = .string ⟨(textZ x).toArray⟩) := by
  obtain ⟨p, k, c, rfl, hu⟩ := ha.slice
  have HS := Lib.hid (fun X (hX : Bel w X) => mk_zsign (w := X) ((ha.bel hX).zi (fit_of (k := 1) (by unfold B64; omega) (by decide))))
  have HT := Lib.hid (fun X (hX : Bel w X) => text_small (hu.bel hX) (by omega) hn ht)
  obtain ⟨s, hs⟩ : ∃ s, decide (x < 0) = s := ⟨_, rfl⟩
  obtain ⟨TL, hTL⟩ : ∃ T, textL x.natAbs = T := ⟨_, rfl⟩
  have hlen : TL.length ≤ 18 := by rw [← hTL]; exact textL_len _
  have HTZ : Hid (textZ x = if x < 0 then 45 :: TL else TL) := by unfold Hid textZ; rw [hTL]
  rw [hs] at HS ⊢
  rw [hTL] at HT
  have HX : Hid (sgnN x = if x < 0 then -1 else if x = 0 then 0 else 1) := rfl
  clear ha hu hn ht hTL hs
  by_cases hlt : x < 0
  · have hsg : sgnN x = -1 := by rw [HX.out, if_pos hlt]
    rw [hsg] at HS
    have HZ : Hid (textZ x = 45 :: TL) := by unfold Hid; rw [HTZ.out, if_pos hlt]
    rw [HZ.out]
    clear hlt hsg h0
    go_enter Tryz.func114, Tryz.ntmps114
    go_upto_region 1 with fail
    obtain ⟨hX1, hbw⟩ := boxes1 w (.cells #[.bool s, .slice p k c] 24)
    obtain ⟨W, hW⟩ : ∃ W, w.alloc (.cells #[.bool s, .slice p k c] 24) = W := ⟨_, rfl⟩
    rw [hW] at hX1 hbw ⊢
    obtain ⟨X1, eX1⟩ : ∃ X, w.heap.size = X := ⟨_, rfl⟩
    rw [eX1]
    rw [eX1] at hX1
    have HX1 := Lib.hid hX1
    have HBW := Lib.hid hbw
    have HGEX1 : Hid (w.heap.size ≤ X1) := by unfold Hid; omega
    clear hW hbw hX1 eX1
    refine line_region 3 [[], [0], [1]] [.is (.agg #[.bool s, .slice p k c]), .is (.int .i64 (-1)), .is (.bool true)] rfl rfl (by decide) (by simp only [Steady]) ?_
    simp only [List.take_succ_cons, List.take_zero, List.drop_succ_cons, List.drop_zero]
    refine fV (by rfl) (by intro w1 hw1 hk1; obtain ⟨c0, c1⟩ := boxc2 (hw1.heap HX1.out); go_simp) ?_
    simp only [Act.put, sA, sB, sC]
    refine fC (by rfl) (by intro w1 hw1 hk1; exact HS.out _ (HBW.out.trans hw1)) (by intro; go_simp) ?_
    simp only [Act.put, sA, sB, sC]
    refine fV (by rfl) (by intro w1 hw1 hk1; go_simp) ?_
    simp only [Act.put, sA, sB, sC]
    intro w1 hw1 hk1
    have HX2 := Lib.hid (hw1.heap HX1.out)
    have HBW2 := Lib.hid (HBW.out.trans hw1)
    clear hw1 HX1 HBW
    go_upto_region 2 with fail
    refine line_region 4 [[], [0], [1], [2]] [.is (.pointer (some ⟨X1, 1, none⟩)), .is (.slice p k c), .is (.string ⟨TL.toArray⟩), .is (.string ⟨(45 :: TL).toArray⟩)] rfl rfl (by decide) (by simp only [Steady]) ?_
    simp only [List.take_succ_cons, List.take_zero, List.drop_succ_cons, List.drop_zero]
    refine fV (by rfl) (by intro w1 hw1 hk1; go_simp) ?_
    simp only [Act.put, sA, sB, sC]
    refine fV (by rfl) (by intro w1 hw1 hk1; have c1 : w1.cell? ⟨X1, 1, none⟩ = some (.slice p k c) := (heap_cell (hw1.heap HX2.out) 1).trans rfl; go_simp) ?_
    simp only [Act.put, sA, sB, sC]
    refine fC (by rfl) (by intro w1 hw1 hk1; exact HT.out _ (HBW2.out.trans hw1)) (by intro; go_simp) ?_
    simp only [Act.put, sA, sB, sC]
    refine flow_is (by intro w1 hw1 hk1; refine want (by rfl) (gives_val ?_); go_simp; rw [if_neg (by omega)]; rfl) ?_
    simp only [Act.put, sA, sB, sC]
    intro w1 hw1 hk1
    have HB3 := Lib.hid (HBW2.out.trans hw1)
    clear hw1
    go_wp2
    go_ret
    exact ⟨_, rfl, HB3.out, rfl⟩
  · have hsg : sgnN x = 1 := by rw [HX.out, if_neg hlt, if_neg h0]
    rw [hsg] at HS
    have HZ : Hid (textZ x = TL) := by unfold Hid; rw [HTZ.out, if_neg hlt]
    rw [HZ.out]
    clear hlt hsg h0
    go_enter Tryz.func114, Tryz.ntmps114
    go_upto_region 1 with fail
    obtain ⟨hX1, hbw⟩ := boxes1 w (.cells #[.bool s, .slice p k c] 24)
    obtain ⟨W, hW⟩ : ∃ W, w.alloc (.cells #[.bool s, .slice p k c] 24) = W := ⟨_, rfl⟩
    rw [hW] at hX1 hbw ⊢
    obtain ⟨X1, eX1⟩ : ∃ X, w.heap.size = X := ⟨_, rfl⟩
    rw [eX1]
    rw [eX1] at hX1
    have HX1 := Lib.hid hX1
    have HBW := Lib.hid hbw
    have HGEX1 : Hid (w.heap.size ≤ X1) := by unfold Hid; omega
    clear hW hbw hX1 eX1
    refine line_region 3 [[], [0], [1]] [.is (.agg #[.bool s, .slice p k c]), .is (.int .i64 1), .is (.bool false)] rfl rfl (by decide) (by simp only [Steady]) ?_
    simp only [List.take_succ_cons, List.take_zero, List.drop_succ_cons, List.drop_zero]
    refine fV (by rfl) (by intro w1 hw1 hk1; obtain ⟨c0, c1⟩ := boxc2 (hw1.heap HX1.out); go_simp) ?_
    simp only [Act.put, sA, sB, sC]
    refine fC (by rfl) (by intro w1 hw1 hk1; exact HS.out _ (HBW.out.trans hw1)) (by intro; go_simp) ?_
    simp only [Act.put, sA, sB, sC]
    refine fV (by rfl) (by intro w1 hw1 hk1; go_simp) ?_
    simp only [Act.put, sA, sB, sC]
    intro w1 hw1 hk1
    have HX2 := Lib.hid (hw1.heap HX1.out)
    have HBW2 := Lib.hid (HBW.out.trans hw1)
    clear hw1 HX1 HBW
    go_upto_region 3 with fail
    refine line_region 3 [[], [0], [1]] [.is (.pointer (some ⟨X1, 1, none⟩)), .is (.slice p k c), .is (.string ⟨TL.toArray⟩)] rfl rfl (by decide) (by simp only [Steady]) ?_
    simp only [List.take_succ_cons, List.take_zero, List.drop_succ_cons, List.drop_zero]
    refine fV (by rfl) (by intro w1 hw1 hk1; go_simp) ?_
    simp only [Act.put, sA, sB, sC]
    refine fV (by rfl) (by intro w1 hw1 hk1; have c1 : w1.cell? ⟨X1, 1, none⟩ = some (.slice p k c) := (heap_cell (hw1.heap HX2.out) 1).trans rfl; go_simp) ?_
    simp only [Act.put, sA, sB, sC]
    refine fC (by rfl) (by intro w1 hw1 hk1; exact HT.out _ (HBW2.out.trans hw1)) (by intro; go_simp) ?_
    simp only [Act.put, sA, sB, sC]
    intro w1 hw1 hk1
    have HB3 := Lib.hid (HBW2.out.trans hw1)
    clear hw1
    go_wp2
    go_ret
    exact ⟨_, rfl, HB3.out, rfl⟩
theorem bytes_app (a b : Array UInt8) : (⟨a⟩ : ByteArray) ++ ⟨b⟩ = ⟨a ++ b⟩ := by
  apply ByteArray.ext
  simp [ByteArray.data_append]
theorem textZ_len (x : Int) : (textZ x).length ≤ 19 := by
  have := textL_len x.natAbs
  unfold textZ
  split <;> simp <;> omega
def TextOK (q : Rat) : Prop := (q.num ≠ 0 ∧ q.num.natAbs < 1000000000000000000 ∧ textL q.num.natAbs ≠ []) ∧ (q.den < 1000000000000000000 ∧ textL q.den ≠ [])
set_option maxHeartbeats 1000000 in
set_option maxRecDepth 100000 in
theorem rtext_small {w : World} {a : Value} {q : Rat} {i : Nat} (ha : RS i w a q) (hi : i ≤ LimK) (hq : TextOK q) : Calls Tryz.prog 72 #[a] w (Makes w fun v _ => v = .string ⟨(textQ q).toArray⟩) := by
  obtain ⟨⟨h1, h2, h3⟩, h4, h5⟩ := hq
  obtain ⟨s, p1, k1, c1, p2, k2, c2, rfl⟩ := ha.parts
  obtain ⟨f1, f2⟩ := ha.2.fit hi
  have HG := Lib.hid (fun X (hX : Bel w X) => mk_rgood (ha.1.bel hX))
  have HZ : Hid (∀ X v, ZC X v q.num → _) := fun X v hv => ztext_small (w := X) hv h1 h2 h3
  have HN : Hid (∀ X v, NC X v q.den → _) := fun X v hv => text_small (w := X) hv q.den_pos h4 h5
  have HO := Lib.hid (fun X => mk_of 1 (by decide) X)
  have HC : Hid (∀ X u v, NC X u q.den → NC X v 1 → _) := fun X u v hu hv => mk_cmp (w := X) (hu.ni' f2) (hv.ni' (fit_of (k := 1) (by decide) (by decide)))
  have hl1 := textZ_len q.num
  have hl2 := textL_len q.den
  obtain ⟨TZ, hTZ⟩ : ∃ T, textZ q.num = T := ⟨_, rfl⟩
  obtain ⟨TD, hTD⟩ : ∃ T, textL q.den = T := ⟨_, rfl⟩
  have hTQ : textQ q = if q.den = 1 then TZ else TZ ++ 47 :: TD := by unfold textQ; rw [hTZ, hTD]
  rw [hTZ] at HZ hl1
  rw [hTD] at HN hl2
  obtain ⟨C1, hC1⟩ : ∃ C, cmpN q.den 1 = C := ⟨_, rfl⟩
  have hcc : C1 = 0 ↔ q.den = 1 := by
    rw [← hC1]
    unfold cmpN
    have := q.den_pos
    constructor
    · intro h
      split at h
      · omega
      · split at h
        · assumption
        · omega
    · intro h
      rw [h]; rfl
  rw [hC1] at HC
  obtain ⟨TQ, hQ⟩ : ∃ T, textQ q = T := ⟨_, rfl⟩
  rw [hQ] at hTQ ⊢
  clear ha h1 h2 h3 h4 h5 f1 f2 hTZ hTD hC1 hQ
  go_enter Tryz.func72, Tryz.ntmps72
  go_upto_region 1 with fail
  obtain ⟨hX1, hbw⟩ := boxes1 w (.cells #[.bool s, .slice p1 k1 c1, .slice p2 k2 c2] 26)
  obtain ⟨W, hW⟩ : ∃ W, w.alloc (.cells #[.bool s, .slice p1 k1 c1, .slice p2 k2 c2] 26) = W := ⟨_, rfl⟩
  rw [hW] at hX1 hbw ⊢
  obtain ⟨X1, eX1⟩ : ∃ X, w.heap.size = X := ⟨_, rfl⟩
  rw [eX1]
  rw [eX1] at hX1
  have HX1 := Lib.hid hX1
  have HBW := Lib.hid hbw
  have HGEX1 : Hid (w.heap.size ≤ X1) := by unfold Hid; omega
  clear hW hbw hX1 eX1
  refine line_region 2 [[], [0]] [.is (.agg #[.bool s, .slice p1 k1 c1, .slice p2 k2 c2]), .has (fun v w => RC w v q)] rfl rfl (by decide) (by simp only [Steady]; exact ⟨fun _ _ _ h hb => h.bel hb, trivial⟩) ?_
  simp only [List.take_succ_cons, List.take_zero, List.drop_succ_cons, List.drop_zero]
  refine fV (by rfl) (by intro w1 hw1 hk1; obtain ⟨c0, c1, c2⟩ := boxc3 (hw1.heap HX1.out); go_simp) ?_
  simp only [Act.put, sA, sB, sC]
  refine fH (by rfl) (by intro w1 hw1 hk1; exact HG.out _ (HBW.out.trans hw1)) (by intro; go_simp) (fun v1 => ?_)
  simp only [Act.put, sA, sB, sC]
  intro w1 hw1 hk1
  obtain ⟨g1, -⟩ := hk1
  obtain ⟨q1, j1, d1, q2, j2, d2, rfl, -⟩ := g1.slice
  have hx1 := hw1.heap HX1.out
  obtain ⟨sq, hsq⟩ : ∃ s, decide (q.num < 0) = s := ⟨_, rfl⟩
  rw [hsq] at g1 ⊢
  have HX1' := Lib.hid hx1
  have a0 := heap_cell hx1 0
  have a1 := heap_cell hx1 1
  have a2 := heap_cell hx1 2
  have b0 := heap_frozen hx1 0
  have b1 := heap_frozen hx1 1
  have b2 := heap_frozen hx1 2
  have HB1 := Lib.hid (HBW.out.trans hw1)
  have HG1 := Lib.hid g1
  clear hx1 g1 hw1 HX1 hsq HBW
  go_upto_region 2 with fail
  obtain ⟨W2, hW2⟩ : ∃ W', ((w1.setCell ⟨X1, 0, none⟩ (.bool sq)).setCell ⟨X1, 1, none⟩ (.slice q1 j1 d1)).setCell ⟨X1, 2, none⟩ (.slice q2 j2 d2) = W' := ⟨_, rfl⟩
  rw [hW2]
  have hS : Sto w w1 W2 X1 26 [.bool sq, .slice q1 j1 d1, .slice q2 j2 d2] := by rw [← hW2]; exact sto [.bool sq, .slice q1 j1 d1, .slice q2 j2 d2] HX1'.out rfl rfl HB1.out HGEX1.out
  have HX2 := Lib.hid hS.heap
  have HB2 := Lib.hid hS.bel
  have HG2 := Lib.hid (HG1.out.lim hS.lim)
  have HNU := Lib.hid (num_of HG2.out)
  have HND : Hid (NC W2 (.slice q2 j2 d2) q.den) := by
    obtain ⟨u, d, he, hu, hd⟩ := HG2.out
    simp only [Value.agg.injEq, Array.mk.injEq, List.cons.injEq, and_true] at he
    obtain ⟨-, -, rfl⟩ := he
    exact hd
  clear hS hW2 HG1 HB1 HX1' a0 a1 a2 b0 b1 b2 HG HG2
  refine line_region 3 [[], [0], [1]] [.is (.pointer (some ⟨X1, 0, none⟩)), .is (.agg #[.bool sq, .slice q1 j1 d1]), .is (.string ⟨TZ.toArray⟩)] rfl rfl (by decide) (by simp only [Steady]) ?_
  simp only [List.take_succ_cons, List.take_zero, List.drop_succ_cons, List.drop_zero]
  refine fV (by rfl) (by intro w1 hw1 hk1; go_simp) ?_
  simp only [Act.put, sA, sB, sC]
  refine fV (by rfl) (by intro w1 hw1 hk1; obtain ⟨c0, c1, -⟩ := boxc3 (hw1.heap HX2.out); go_simp) ?_
  simp only [Act.put, sA, sB, sC]
  refine fC (by rfl) (by intro w1 hw1 hk1; exact HZ.out _ _ (HNU.out.bel hw1)) (by intro; go_simp) ?_
  simp only [Act.put, sA, sB, sC]
  intro W3 hW3 hk1
  have HX3 := Lib.hid (hW3.heap HX2.out)
  have HB3 := Lib.hid (HB2.out.trans hW3)
  have HND3 := Lib.hid (HND.out.bel hW3)
  clear hW3 HX2 HB2 HND HNU HZ
  go_upto_region 3 with fail
  by_cases hc : C1 = 0
  · have hq1 : TQ = TZ := by rw [hTQ, if_pos (hcc.1 hc)]
    subst hc
    subst hq1
    clear hTQ hcc
    refine region_flow 5 [[], [0], [], [1, 2], [3]] [.is (.pointer (some ⟨X1, 2, none⟩)), .is (.slice q2 j2 d2), .has (fun v w => NC w v 1), .is (.int .i64 0), .is (.bool true)] (by kernel_rfl) (by kernel_rfl) rfl (by simp only [Steady]; exact ⟨fun _ _ _ h hb => h.bel hb, trivial⟩) ?_
    simp only [List.take_succ_cons, List.take_zero, List.drop_succ_cons, List.drop_zero]
    refine fV (by rfl) (by intro w1 hw1 hk1; go_simp) ?_
    simp only [Act.put, sA, sB, sC]
    refine fV (by rfl) (by intro w1 hw1 hk1; have c2 : w1.cell? ⟨X1, 2, none⟩ = some (.slice q2 j2 d2) := (heap_cell (hw1.heap HX3.out) 2).trans rfl; go_simp) ?_
    simp only [Act.put, sA, sB, sC]
    refine fH (by rfl) (by intro w1 hw1 hk1; exact HO.out _) (by intro; go_simp) (fun v2 => ?_)
    simp only [Act.put, sA, sB, sC]
    refine fC (by rfl) (by intro w1 hw1 hk1; obtain ⟨g2, -⟩ := hk1; exact HC.out _ _ _ (HND3.out.bel hw1) g2) (by intro; go_simp) ?_
    simp only [Act.put, sA, sB, sC]
    refine fV (by rfl) (by intro w1 hw1 hk1; go_simp) ?_
    simp only [Act.put, sA, sB, sC]
    intro W4 hW4 hk1
    obtain ⟨g2, -⟩ := hk1
    have hb := HB3.out.trans hW4
    clear hW4 g2
    go_wp2
    go_ret
    exact ⟨_, rfl, hb, rfl⟩
  · have hq1 : TQ = TZ ++ 47 :: TD := by rw [hTQ, if_neg (fun h => hc (hcc.2 h))]
    subst hq1
    clear hTQ hcc
    refine region_flow 5 [[], [0], [], [1, 2], [3]] [.is (.pointer (some ⟨X1, 2, none⟩)), .is (.slice q2 j2 d2), .has (fun v w => NC w v 1), .is (.int .i64 C1), .is (.bool false)] (by kernel_rfl) (by kernel_rfl) rfl (by simp only [Steady]; exact ⟨fun _ _ _ h hb => h.bel hb, trivial⟩) ?_
    simp only [List.take_succ_cons, List.take_zero, List.drop_succ_cons, List.drop_zero]
    refine fV (by rfl) (by intro w1 hw1 hk1; go_simp) ?_
    simp only [Act.put, sA, sB, sC]
    refine fV (by rfl) (by intro w1 hw1 hk1; have c2 : w1.cell? ⟨X1, 2, none⟩ = some (.slice q2 j2 d2) := (heap_cell (hw1.heap HX3.out) 2).trans rfl; go_simp) ?_
    simp only [Act.put, sA, sB, sC]
    refine fH (by rfl) (by intro w1 hw1 hk1; exact HO.out _) (by intro; go_simp) (fun v2 => ?_)
    simp only [Act.put, sA, sB, sC]
    refine fC (by rfl) (by intro w1 hw1 hk1; obtain ⟨g2, -⟩ := hk1; exact HC.out _ _ _ (HND3.out.bel hw1) g2) (by intro; go_simp) ?_
    simp only [Act.put, sA, sB, sC]
    refine flow_is (by intro w1 hw1 hk1; refine want (by rfl) (gives_val ?_); go_simp; try simp [hc]) ?_
    simp only [Act.put, sA, sB, sC]
    intro W4 hW4 hk1
    obtain ⟨g2, -⟩ := hk1
    have HX4 := Lib.hid (hW4.heap HX3.out)
    have HB4 := Lib.hid (HB3.out.trans hW4)
    have HND4 := Lib.hid (HND3.out.bel hW4)
    clear hW4 g2 hc HX3 HB3 HND3
    go_upto_region 5 with fail
    refine line_region 6 [[], [0], [], [2], [3], [1, 4]] [.is (.string ⟨TZ.toArray⟩), .is (.string ⟨(TZ ++ [47]).toArray⟩), .is (.pointer (some ⟨X1, 2, none⟩)), .is (.slice q2 j2 d2), .is (.string ⟨TD.toArray⟩), .is (.string ⟨(TZ ++ 47 :: TD).toArray⟩)] rfl rfl (by decide) (by simp only [Steady]) ?_
    simp only [List.take_succ_cons, List.take_zero, List.drop_succ_cons, List.drop_zero]
    refine fV (by rfl) (by intro w1 hw1 hk1; go_simp) ?_
    simp only [Act.put, sA, sB, sC]
    refine flow_is (by intro w1 hw1 hk1; refine want (by rfl) (gives_val ?_); go_simp; rw [if_neg (by omega), bytes_app, ← List.append_toArray]; try rfl) ?_
    simp only [Act.put, sA, sB, sC]
    refine fV (by rfl) (by intro w1 hw1 hk1; go_simp) ?_
    simp only [Act.put, sA, sB, sC]
    refine fV (by rfl) (by intro w1 hw1 hk1; have c2 : w1.cell? ⟨X1, 2, none⟩ = some (.slice q2 j2 d2) := (heap_cell (hw1.heap HX4.out) 2).trans rfl; go_simp) ?_
    simp only [Act.put, sA, sB, sC]
    refine fC (by rfl) (by intro w1 hw1 hk1; exact HN.out _ _ (HND4.out.bel hw1)) (by intro; go_simp) ?_
    simp only [Act.put, sA, sB, sC]
    refine flow_is (by intro w1 hw1 hk1; refine want (by rfl) (gives_val ?_); go_simp; rw [if_neg (by omega), bytes_app]; simp) ?_
    simp only [Act.put, sA, sB, sC]
    intro W5 hW5 hk1
    have hb := HB4.out.trans hW5
    clear hW5
    go_wp2
    go_ret
    exact ⟨_, rfl, hb, rfl⟩
instance (q : Rat) : Decidable (TextOK q) := by unfold TextOK; infer_instance
end Go.Proofs.YtafmfnpjhhaikaaGreatDoor
