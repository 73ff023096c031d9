/-
  The plain laws of the long division's rounds.
-/
import Derived.Test.YtafmfnpjhhaikaaGreatDoorZae
import Derived.Sort.LoopGhostIn
namespace Go.Proofs.YtafmfnpjhhaikaaGreatDoor
open Go.RowKit
theorem top_zero {L : List Nat} {F : Nat} (h : valB B64 L < B64 ^ F) (hF : F ≤ L.length) : valB B64 (L.drop F) = 0 := by
  have h1 := val_drop B64 L F hF
  rcases Nat.eq_zero_or_pos (valB B64 (L.drop F)) with h2 | h2
  · exact h2
  · have : B64 ^ F * 1 ≤ B64 ^ F * valB B64 (L.drop F) := Nat.mul_le_mul_left _ h2
    omega
theorem low_lt {L : List Nat} {F : Nat} (ha : AllB B64 L) (h : valB B64 (L.drop F) = 0) (hF : F ≤ L.length) : valB B64 L < B64 ^ F := by
  have h1 := val_drop B64 L F hF
  rw [h, Nat.mul_zero, Nat.add_zero] at h1
  rw [h1]
  have := val_lt (B := B64) (l := L.take F) (fun x hx => ha x (List.mem_of_mem_take hx))
  rwa [List.length_take, Nat.min_eq_left hF] at this
theorem part_val {L : List Nat} {i d : Nat} (ha : AllB B64 L) (h : valB B64 L < B64 ^ (i + d)) (hF : i + d ≤ L.length) : valB B64 ((L.drop i).take d) = valB B64 L / B64 ^ i := by
  rw [List.take_drop, val_drop_div b64_pos (fun x hx => ha x (List.mem_of_mem_take hx))]
  have h1 := val_drop B64 L (i + d) hF
  rw [top_zero h hF, Nat.mul_zero, Nat.add_zero] at h1
  rw [← h1]
theorem dm_start {A b W n m NQ : Nat} (hA : A < B64 ^ n) (hb : B64 ^ (m + 1) ≤ b) (hn : NQ + (m + 1) = n) (hW : 0 < W) : A * W < b * W * B64 ^ NQ := by
  have h1 : B64 ^ n ≤ b * B64 ^ NQ := by
    rw [← hn, Nat.pow_add, Nat.mul_comm (B64 ^ NQ)]
    exact Nat.mul_le_mul_right _ hb
  have h2 : b * W * B64 ^ NQ = b * B64 ^ NQ * W := by grind
  rw [h2]
  exact Nat.mul_lt_mul_of_pos_right (Nat.lt_of_lt_of_le hA h1) hW
/-- What holds when so many digits are known. -/
def DmInv (U0 V : Nat) (NQ : Nat) (Q L : List Nat) (k : Nat) : Prop := U0 = V * valB B64 (Q.drop (NQ - k)) * B64 ^ (NQ - k) + valB B64 L ∧ valB B64 L < V * B64 ^ (NQ - k)
theorem dm_zero {U0 V NQ : Nat} {Q L : List Nat} (hQ : Q.length = NQ) (hL : valB B64 L = U0) (h : U0 < V * B64 ^ NQ) : DmInv U0 V NQ Q L 0 := by
  unfold DmInv
  rw [Nat.sub_zero, List.drop_of_length_le (by omega), hL]
  simp [valB]
  exact h
theorem dm_guess {U V i q P : Nat} (_ : 0 < V) (hU : U < V * (B64 * B64 ^ i)) (hP : P = U / B64 ^ i) (hq : P < V * B64 → P / V ≤ q) : U / (V * B64 ^ i) ≤ q := by
  have hE : 0 < B64 ^ i := Nat.pow_pos b64_pos
  have h1 : P < V * B64 := by
    rw [hP, Nat.div_lt_iff_lt_mul hE, Nat.mul_assoc]
    exact hU
  have h2 := hq h1
  rw [hP, Nat.div_div_eq_div_mul, Nat.mul_comm (B64 ^ i)] at h2
  exact h2
theorem dm_next {U0 V NQ k i q R : Nat} {Q L : List Nat} (hV : 0 < V) (hk : k < NQ) (hi : i = NQ - 1 - k) (hQ : Q.length = NQ) (h : DmInv U0 V NQ Q L k) (hq : q = valB B64 L / (V * B64 ^ i)) (hR : R = valB B64 L % (V * B64 ^ i)) {L' : List Nat} (hL' : valB B64 L' = R) :
    DmInv U0 V NQ (Q.set i q) L' (k + 1) ∧ q < B64 := by
  obtain ⟨h1, h2⟩ := h
  have e1 : NQ - k = i + 1 := by omega
  have e2 : NQ - (k + 1) = i := by omega
  rw [e1, Nat.pow_succ, Nat.mul_comm (B64 ^ i)] at h1 h2
  have h3 := digit_next h1 h2 hV (Nat.pow_pos b64_pos)
  rw [← hq, ← hR] at h3
  refine ⟨?_, h3.2.2⟩
  unfold DmInv
  rw [e2, hL', drop_set_at (by omega)]
  exact ⟨h3.1, h3.2.1⟩
/-- The round of a digit, at its places. -/
def DmAt (U0 V NQ : Nat) (Q L : List Nat) (pre : List Nat) : Prop := ∀ k, k ≤ NQ → pre = (downs NQ).take k → DmInv U0 V NQ Q L k
theorem dmAt_len {NQ k : Nat} {pre : List Nat} (hk : k ≤ NQ) (h : pre = (downs NQ).take k) : pre.length = k := by
  rw [h, List.length_take, downs_len, Nat.min_eq_left hk]
theorem dmAt_zero {U0 V NQ : Nat} {Q L : List Nat} (h : DmInv U0 V NQ Q L 0) : DmAt U0 V NQ Q L [] := by
  intro k hk hp
  have := dmAt_len hk hp
  obtain rfl : k = 0 := by simpa using this.symm
  exact h
theorem dmAt_last {NQ i k : Nat} {pre : List Nat} (hk : k ≤ NQ) (h : pre ++ [i] = (downs NQ).take k) : ∃ m, k = m + 1 ∧ pre = (downs NQ).take m ∧ i = NQ - 1 - m := by
  have h1 := dmAt_len hk h
  rw [List.length_append, List.length_singleton] at h1
  obtain ⟨m, rfl⟩ : ∃ m, k = m + 1 := ⟨k - 1, by omega⟩
  rw [downs_take (by omega)] at h
  obtain ⟨hp1, hp2⟩ := List.append_inj' h rfl
  exact ⟨m, rfl, hp1, by simpa using hp2⟩
end Go.Proofs.YtafmfnpjhhaikaaGreatDoor
namespace Go.Proofs.YtafmfnpjhhaikaaGreatDoor
open Go.RowKit Go.Shelf
attribute [local go_sem] Oper.semAt_some
abbrev PlainP (p : Option Addr) : Prop := p = none ∨ ∃ b o, p = some ⟨b, o, none⟩
theorem LOwn.plain {k : IntKind} {B t : Nat} {w : World} {base : Nat} {p : Option Addr} {n c : Nat} {l : List Nat} (h : LOwn k B t w base (.slice p n c) l) : PlainP p := by
  rcases h.1.2 with ⟨h1, _⟩ | ⟨g, cap, cur, h1, _⟩
  · simp only [Value.slice.injEq] at h1
    exact .inl h1.1
  · simp only [Value.slice.injEq] at h1
    exact .inr ⟨g, 0, h1.1⟩
theorem LOwn.set_below {k : IntKind} {B t : Nat} {w : World} {base : Nat} {v : Value} {l : List Nat} (h : LOwn k B t w base v l) {p : Addr} (hp : p.block < base) (u : Value) : LOwn k B t (w.setCell p u) base v l := by
  obtain ⟨⟨h1, h2⟩, h3⟩ := h
  refine ⟨⟨h1, ?_⟩, h3⟩
  rcases h2 with h2 | ⟨g, cap, cur, he, hb, hg, rest⟩
  · exact .inl h2
  · exact .inr ⟨g, cap, cur, he, hb, heap_other hg (by omega) u, rest⟩
theorem bel_new {w w' : World} {o : Obj} (h : Bel (w.alloc o) w') : w'.heap[w.heap.size]? = some o := h.heap (heap_alloc_new w o)
theorem row_trim {w : World} {p : Option Addr} {c : Nat} {l : List Nat} (h : R64 w (.slice p l.length c) l) : R64 w (.slice p (trimL l).length c) (trimL l) := by
  have h2 := h.take (trim_len l)
  rwa [← trim_prefix] at h2
set_option maxHeartbeats 4000000 in
set_option maxRecDepth 100000 in
theorem divMod_zero (p1 p2 : Option Addr) (c1 c2 : Nat) (l1 l2 : List Nat) (w : World) (h1 : R64 w (.slice p1 l1.length c1) l1) (h2 : R64 w (.slice p2 l2.length c2) l2) (hl1 : l1.length < 1000000000) (hl2 : l2.length < 1000000000) (h0 : valB B64 l2 = 0) :
    Calls Tryz.prog 174 #[.slice p1 l1.length c1, .slice p2 l2.length c2] w fun e w' => e = .returned (.tuple #[.slice none 0 0, .slice none 0 0, .int .i64 12]) ∧ Bel w w' := by
  have HT1 : Hid (∀ X, Bel w X → _) := fun X hX => trim_any p1 c1 l1 X (h1.bel hX) (by omega)
  have HT2 : Hid (∀ X, Bel w X → _) := fun X hX => trim_any p2 c2 l2 X (h2.bel hX) (by omega)
  rw [trim_nil b64_pos h0] at HT2
  obtain ⟨n, hn⟩ : ∃ n, l1.length = n := ⟨_, rfl⟩
  obtain ⟨m, hm⟩ : ∃ m, l2.length = m := ⟨_, rfl⟩
  obtain ⟨t1, ht1⟩ : ∃ t, trimL l1 = t := ⟨_, rfl⟩
  rw [hn, ht1] at HT1
  rw [hm] at HT2
  rw [hn, hm]
  have HB : Hid (∀ o, Bel w (w.alloc o)) := fun o => (Bel.refl w).alloc o
  clear h1 h2 hn hm ht1 h0 hl1 hl2
  go_enter Tryz.func174, Tryz.ntmps174
  go_wp2_with (first
    | (go_at_call 157; first | ((with_reducible refine (HT1.out _ (HB.out _)).mono ?_); rintro e w3 ⟨rfl, hw3⟩; obtain rfl := hw3.symm; clear hw3) | ((with_reducible refine (HT2.out _ (HB.out _)).mono ?_); rintro e w3 ⟨rfl, hw3⟩; obtain rfl := hw3.symm; clear hw3)))
  exact bodyPost_ret (v := .tuple #[.slice none 0 0, .slice none 0 0, .int .i64 12]) (by simp [results, Tryz.results174, go_sem]) rfl ⟨rfl, (Bel.refl w).alloc _⟩
theorem cmpN_lt {a b : Nat} (h : a < b) : cmpN a b = -1 := if_pos h
theorem cmpN_ge {a b : Nat} (h : b ≤ a) : 0 ≤ cmpN a b := by
  unfold cmpN
  rw [if_neg (by omega)]
  split <;> omega
set_option maxHeartbeats 4000000 in
set_option maxRecDepth 100000 in
theorem divMod_less (p1 p2 : Option Addr) (c1 c2 : Nat) (l1 l2 : List Nat) (w : World) (h1 : R64 w (.slice p1 l1.length c1) l1) (h2 : R64 w (.slice p2 l2.length c2) l2) (hl1 : l1.length < 1000000000) (hl2 : l2.length < 1000000000) (hp : PlainP p1)
    (hlt : valB B64 l1 < valB B64 l2) :
    Calls Tryz.prog 174 #[.slice p1 l1.length c1, .slice p2 l2.length c2] w fun e w' => ∃ r cr, e = .returned (.tuple #[.slice none 0 0, .slice r (trimL l1).length cr, .int .i64 0]) ∧ O64 w' w.heap.size (.slice r (trimL l1).length cr) (trimL l1) ∧ Bel w w' := by
  have HT1 : Hid (∀ X, Bel w X → _) := fun X hX => trim_any p1 c1 l1 X (h1.bel hX) (by omega)
  have HT2 : Hid (∀ X, Bel w X → _) := fun X hX => trim_any p2 c2 l2 X (h2.bel hX) (by omega)
  have HC : Hid (∀ X, Bel w X → _) := fun X hX => natCmp_any p1 p2 c1 c2 (trimL l1) (trimL l2) X (row_trim (h1.bel hX)) (row_trim (h2.bel hX)) (by have := trim_len l1; omega) (by have := trim_len l2; omega)
  rw [val_trim, val_trim, cmpN_lt hlt] at HC
  have HK : Hid (∀ X, Bel w X → _) := fun X hX => clone_any p1 c1 (trimL l1) X (row_trim (h1.bel hX)) hp (by have := trim_len l1; omega)
  have hne : 0 < (trimL l2).length := by
    have : trimL l2 ≠ [] := by
      intro h
      have h3 := val_trim B64 l2
      rw [h] at h3
      simp [valB] at h3
      omega
    exact List.length_pos_iff.2 this
  obtain ⟨n, hn⟩ : ∃ n, l1.length = n := ⟨_, rfl⟩
  obtain ⟨m, hm⟩ : ∃ m, l2.length = m := ⟨_, rfl⟩
  obtain ⟨t1, ht1⟩ : ∃ t, trimL l1 = t := ⟨_, rfl⟩
  obtain ⟨t2, ht2⟩ : ∃ t, trimL l2 = t := ⟨_, rfl⟩
  rw [ht1] at HK
  rw [hn, ht1] at HT1
  rw [ht1, ht2] at HC
  rw [hm, ht2] at HT2
  rw [ht2] at hne
  rw [hn, hm, ht1]
  have hne' : ((t2.length : Int) == 0) = false := beq_false_of_ne (by omega)
  have HB : Hid (∀ o, Bel w (w.alloc o)) := fun o => (Bel.refl w).alloc o
  clear h1 h2 hn hm ht1 ht2 hlt hl1 hl2 hp
  go_enter Tryz.func174, Tryz.ntmps174
  go_wp2_with (first
    | (go_at_call 157; first | ((with_reducible refine (HT1.out _ (HB.out _)).mono ?_); rintro e w3 ⟨rfl, hw3⟩; obtain rfl := hw3.symm; clear hw3) | ((with_reducible refine (HT2.out _ (HB.out _)).mono ?_); rintro e w3 ⟨rfl, hw3⟩; obtain rfl := hw3.symm; clear hw3))
    | (go_at_call 115; (with_reducible refine (HC.out _ (HB.out _)).mono ?_); rintro e w4 ⟨rfl, hb4⟩; have HB4 := Lib.hid ((HB.out _).trans hb4); have hh4 := bel_new hb4; have qc : w4.cell? ⟨w.heap.size, 0, none⟩ = some (.slice none 0 0) := (heap_cell hh4 0).trans rfl; have qf : w4.frozen? ⟨w.heap.size, 0, none⟩ = false := heap_frozen hh4 0; clear hb4)
    | (go_at_call 173; (with_reducible refine (HK.out _ HB4.out).mono ?_); rintro e w5 ⟨r, cr, rfl, ho5, hb5⟩; have HO5 := Lib.hid ho5; have HB5 := Lib.hid (HB4.out.trans hb5); replace qc := hb5.cell qc; replace qf := heap_frozen (hb5.heap hh4) 0; clear ho5 hb5))
  have hc5 : (w5.setCell ⟨w.heap.size, 0, none⟩ (.slice none 0 0)).cell? ⟨w.heap.size, 0, none⟩ = some (.slice none 0 0) := World.cell?_setCell_same' _ _ _ (by rw [qc]; rfl)
  refine bodyPost_ret (v := .tuple #[.slice none 0 0, .slice r t1.length cr, .int .i64 0]) (by simp [results, Tryz.results174, go_sem, hc5]) rfl ⟨r, cr, rfl, ?_, HB5.out.set (p := ⟨w.heap.size, 0, none⟩) (Nat.le_refl _) _⟩
  exact (HO5.out.set_below (p := ⟨w.heap.size, 0, none⟩) (heap_lt hh4) _).base (Nat.le_of_lt (heap_lt hh4))
set_option maxHeartbeats 4000000 in
set_option maxRecDepth 100000 in
theorem divMod_one (p1 p2 : Option Addr) (c1 c2 : Nat) (l1 l2 : List Nat) (w : World) (h1 : R64 w (.slice p1 l1.length c1) l1) (h2 : R64 w (.slice p2 l2.length c2) l2) (hl1 : l1.length < 1000000000) (hl2 : l2.length < 1000000000)
    (hge : valB B64 l2 ≤ valB B64 l1) (h01 : (trimL l2).length = 1) :
    Calls Tryz.prog 174 #[.slice p1 l1.length c1, .slice p2 l2.length c2] w fun e w' => ∃ q cq r cr, e = .returned (.tuple #[.slice q (limB B64 (valB B64 l1 / valB B64 l2)).length cq, .slice r (limB B64 (valB B64 l1 % valB B64 l2)).length cr, .int .i64 0]) ∧
      O64 w' w.heap.size (.slice q (limB B64 (valB B64 l1 / valB B64 l2)).length cq) (limB B64 (valB B64 l1 / valB B64 l2)) ∧ O64 w' w.heap.size (.slice r (limB B64 (valB B64 l1 % valB B64 l2)).length cr) (limB B64 (valB B64 l1 % valB B64 l2)) ∧ Bel w w' := by
  have hv1 := val_trim B64 l1
  have hv2 := val_trim B64 l2
  have hr1 := row_trim h1
  have hr2 := row_trim h2
  have hle1 := trim_len l1
  have HT1 : Hid (∀ X, Bel w X → _) := fun X hX => trim_any p1 c1 l1 X (h1.bel hX) (by omega)
  have HT2 : Hid (∀ X, Bel w X → _) := fun X hX => trim_any p2 c2 l2 X (h2.bel hX) (by omega)
  have HC : Hid (∀ X, Bel w X → _) := fun X hX => natCmp_any p1 p2 c1 c2 (trimL l1) (trimL l2) X (hr1.bel hX) (hr2.bel hX) (by omega) (by omega)
  rw [val_trim, val_trim] at HC
  obtain ⟨b, hb⟩ : ∃ b, trimL l2 = [b] := List.length_eq_one_iff.1 h01
  have hb0 : b ≠ 0 := trim_last (l := trimL l2) (k := 0) (trim_trim l2) h01 (by rw [hb]; rfl)
  have hbB : b < B64 := hr2.all b (by rw [hb]; exact List.mem_singleton.2 rfl)
  have hvb : valB B64 l2 = b := by rw [← hv2, hb]; simp [valB]
  obtain ⟨b0, o0, c0, he0, _, qb, _⟩ := hr2.at (j := 0) (x := b) (by rw [hb]; rfl)
  simp only [Value.slice.injEq] at he0
  obtain ⟨rfl, _, rfl⟩ := he0
  have HS : Hid (∀ X, Bel w X → _) := fun X hX => small_any p1 c1 b (trimL l1) X (hr1.bel hX) (by omega) (by omega) hbB
  rw [hv1] at HS
  rw [hvb] at HC hge ⊢
  have HO : Hid (∀ X, _) := fun X => natOf_any (valB B64 l1 % b) (by have := Nat.mod_lt (valB B64 l1) (by omega : 0 < b); omega) X
  obtain ⟨V1, hV1⟩ : ∃ v, valB B64 l1 = v := ⟨_, rfl⟩
  rw [hV1] at HC HS HO hge ⊢
  obtain ⟨C, hC⟩ : ∃ C, cmpN V1 b = C := ⟨_, rfl⟩
  have hC0 : decide (C < 0) = false := by have := cmpN_ge hge; rw [hC] at this; exact decide_eq_false (by omega)
  rw [hC] at HC
  obtain ⟨n, hn⟩ : ∃ n, l1.length = n := ⟨_, rfl⟩
  obtain ⟨m, hm⟩ : ∃ m, l2.length = m := ⟨_, rfl⟩
  obtain ⟨t1, ht1⟩ : ∃ t, trimL l1 = t := ⟨_, rfl⟩
  rw [ht1] at HS
  rw [hn, ht1] at HT1
  rw [ht1, hb, show [b].length = 1 from rfl] at HC
  rw [hm, hb, show [b].length = 1 from rfl] at HT2
  rw [hn, hm]
  obtain ⟨Q, hQ⟩ : ∃ q, limB B64 (V1 / b) = q := ⟨_, rfl⟩
  obtain ⟨R, hR⟩ : ∃ q, limB B64 (V1 % b) = q := ⟨_, rfl⟩
  obtain ⟨R1, hR1⟩ : ∃ q, V1 % b = q := ⟨_, rfl⟩
  rw [hQ] at HS ⊢
  rw [hR] at HO ⊢
  rw [hR1] at HO HS
  have HB : Hid (∀ o, Bel w (w.alloc o)) := fun o => (Bel.refl w).alloc o
  have HQB := Lib.hid qb
  rw [Nat.add_zero] at HQB
  clear h1 h2 hn hm ht1 hl1 hl2 hv1 hv2 hr1 hr2 hle1 hb hb0 hbB hvb qb hge hC hQ hR hR1 hV1 h01
  go_enter Tryz.func174, Tryz.ntmps174
  go_wp2_with (first
    | (go_at_call 157; first | ((with_reducible refine (HT1.out _ (HB.out _)).mono ?_); rintro e w3 ⟨rfl, hw3⟩; obtain rfl := hw3.symm; clear hw3) | ((with_reducible refine (HT2.out _ (HB.out _)).mono ?_); rintro e w3 ⟨rfl, hw3⟩; obtain rfl := hw3.symm; clear hw3))
    | (go_at_call 115; (with_reducible refine (HC.out _ (HB.out _)).mono ?_); rintro e w4 ⟨rfl, hb4⟩; have HB4 := Lib.hid ((HB.out _).trans hb4); have hh4 := bel_new hb4; have qb4 := HB4.out.cell HQB.out; clear hb4)
    | (go_at_call 161; (with_reducible refine (HS.out _ HB4.out).mono ?_); rintro e w5 ⟨q, cq, rfl, ho5, hb5⟩; have HO5 := Lib.hid ho5; have HB5 := Lib.hid (HB4.out.trans hb5); have hh5 := hb5.heap hh4; clear ho5 hb5)
    | (go_at_call 116; (with_reducible refine (HO.out _).mono ?_); rintro e w6 ⟨r, cr, rfl, ho6, hb6⟩; have HO6 := Lib.hid ho6; have HB6 := Lib.hid (HB5.out.trans hb6); have HB56 := Lib.hid hb6; have hh6 := hb6.heap hh5; have qc : w6.cell? ⟨w.heap.size, 0, none⟩ = some (.slice none 0 0) := (heap_cell hh6 0).trans rfl; have qf : w6.frozen? ⟨w.heap.size, 0, none⟩ = false := heap_frozen hh6 0; clear ho6 hb6))
  have hc5 : (w6.setCell ⟨w.heap.size, 0, none⟩ (.slice q Q.length cq)).cell? ⟨w.heap.size, 0, none⟩ = some (.slice q Q.length cq) := World.cell?_setCell_same' _ _ _ (by rw [qc]; rfl)
  refine bodyPost_ret (v := .tuple #[.slice q Q.length cq, .slice r R.length cr, .int .i64 0]) (by simp [results, Tryz.results174, go_sem, hc5]) rfl ⟨q, cq, r, cr, rfl, ?_, ?_, HB6.out.set (p := ⟨w.heap.size, 0, none⟩) (Nat.le_refl _) _⟩
  · exact ((HO5.out.bel HB56.out).set_below (p := ⟨w.heap.size, 0, none⟩) (heap_lt hh4) _).base (Nat.le_of_lt (heap_lt hh4))
  · exact (HO6.out.set_below (p := ⟨w.heap.size, 0, none⟩) (heap_lt hh5) _).base (Nat.le_of_lt (heap_lt hh5))
end Go.Proofs.YtafmfnpjhhaikaaGreatDoor
