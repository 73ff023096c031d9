/-
  PpmSize returns true for every input: a file is its head and three bytes a pixel; one byte more or fewer is none. Condition: the three tables of Go's library that are listed read as the program's text lays them (the card ties them).
-/
import Derived.Test.YtokfbeikpbnpgaaDoorRowKit
namespace Go.Proofs.YtokfbeikpbnpgaaDoor
open Go.ChangeShapes Go.WideShapes Go.ChangeAt Go.WideMaps Go.WideElems Go.RowKit

theorem ret_i64 {a b : Int} (h : a = b) : Ending.returned (.int .i64 a) = Ending.returned (.int .i64 b) := by rw [h]
theorem mod_any (a n : Int) (w : World) (h0 : 0 ≤ a) (h1 : a ≤ 255) (hn : 1 ≤ n) (hn2 : n ≤ 100000) :
    Calls Tryd.prog 11 #[.int .i64 a, .int .i64 n] w fun e w' => e = .returned (.int .i64 (a % n)) ∧ w = w' := by
  have h3 : 0 ≤ a % n := Int.emod_nonneg _ (by omega)
  have h4 : a % n < n := Int.emod_lt_of_pos _ (by omega)
  have H5 : Hid ((a % n + n) % n = a % n) := by unfold Hid; rw [Int.add_emod_right, Int.emod_emod]
  have hn0 : (n == 0) = false := by simp; omega
  go_enter Tryd.func11, Tryd.ntmps11
  go_wp2
  go_ret
  exact ⟨ret_i64 H5.out, rfl⟩

theorem side30_len {n : Int} (h : 1 ≤ n) (h2 : n ≤ 30) : 1 ≤ (Lib.itoa n).length ∧ (Lib.itoa n).length ≤ 2 := by
  have hs : Side n := ⟨h, by omega⟩
  rw [itoa_side hs, Lib.decDigits_length]
  refine ⟨Lib.nDigits_pos _, ?_⟩
  by_cases a : n.toNat < 10
  · rw [Lib.nDigits_small a]; omega
  rw [Lib.nDigits_big a, Lib.nDigits_small (by omega)]
  omega
theorem head30_len {a b : Int} (a1 : 1 ≤ a) (a2 : a ≤ 30) (b1 : 1 ≤ b) (b2 : b ≤ 30) : 11 ≤ (headL a b).length ∧ (headL a b).length ≤ 13 := by
  have := side30_len a1 a2
  have := side30_len b1 b2
  simp only [headL, List.length_append, List.length_cons, List.length_nil]
  omega
theorem RB.prefix {w : World} {p : Option Addr} {c : Nat} {xs : List Int} (h : RB w p c xs) (k : Nat) : RB w p c (xs.take k) :=
  ⟨by have := h.1; simp; omega, h.2.1, h.take k, fun x hx => h.2.2.2 x (List.mem_of_mem_take hx)⟩
theorem cut_bad {a b : Int} {zs : List Int} {N k : Nat} (ha : Side a) (hb : Side b) (hN : (N : Int) = 3 * a * b) (hz : zs.length = N) (hk : k < (nums (headL a b) ++ zs).length) (a' b' : Int) (zs' : List Int) : ¬ Img ((nums (headL a b) ++ zs).take k) a' b' zs' := by
  intro h
  have e := h.2.2.1
  have e2 : nums (headL a b) ++ zs = nums (headL a' b') ++ (zs' ++ (nums (headL a b) ++ zs).drop k) := by
    rw [← List.append_assoc, ← e, List.take_append_drop]
  have e3 : headL a b ++ Lib.bytesOf zs = headL a' b' ++ Lib.bytesOf (zs' ++ (nums (headL a b) ++ zs).drop k) := by
    have := congrArg Lib.bytesOf e2
    unfold Lib.bytesOf at this ⊢
    rw [List.map_append, List.map_append] at this
    have q1 := bytes_nums (headL a b)
    have q2 := bytes_nums (headL a' b')
    unfold Lib.bytesOf at q1 q2
    rw [q1, q2] at this
    exact this
  obtain ⟨rfl, rfl, _⟩ := headL_inj ha hb h.1 h.2.1 e3
  have hl := congrArg List.length e
  have := h.2.2.2
  simp only [List.length_take, List.length_append, nums_length] at hl hk
  omega
theorem more_bad {a b : Int} {zs : List Int} {N : Nat} (ha : Side a) (hb : Side b) (hN : (N : Int) = 3 * a * b) (hz : zs.length = N) (a' b' : Int) (zs' : List Int) : ¬ Img (nums (headL a b) ++ zs ++ [0]) a' b' zs' := by
  intro h
  have e := h.2.2.1
  rw [List.append_assoc] at e
  have e3 : headL a b ++ Lib.bytesOf (zs ++ [0]) = headL a' b' ++ Lib.bytesOf zs' := by
    have := congrArg Lib.bytesOf e
    unfold Lib.bytesOf at this ⊢
    simp only [List.map_append] at this ⊢
    have q1 := bytes_nums (headL a b)
    have q2 := bytes_nums (headL a' b')
    unfold Lib.bytesOf at q1 q2
    rw [q1, q2] at this
    exact this
  obtain ⟨rfl, rfl, _⟩ := headL_inj ha hb h.1 h.2.1 e3
  have hl := List.append_cancel_left e
  have := h.2.2.2
  rw [← hl, List.length_append] at this
  simp at this
  omega
/-- Decode where there is no file. -/
theorem pdec_none (p : Option Addr) (c n : Nat) (xs : List Int) (w : World) (hn : xs.length = n) (hR : RB w p c xs) (hl : n ≤ 140737488351232) (ht : Tab w) (hbad : ∀ a b zs, ¬ Img xs a b zs) :
    Calls Tryd.prog 9 #[.slice p n c] w fun e w' => ∃ p c, e = .returned (.tuple #[.int .i64 0, .int .i64 0, .slice p 0 c, .int .i64 11]) ∧ Below w.heap.size w w' := by
  subst hn
  refine (pdec_any p c xs w hR hl ht).mono ?_
  rintro e w' ⟨a, b, p', c', zs, q, rfl, hD, hR', hb⟩
  rcases hD with ⟨_, h⟩ | ⟨rfl, rfl, rfl, rfl, _⟩
  · exact absurd h (hbad _ _ _)
  · exact ⟨p', c', rfl, hb⟩
def zeros (N : Nat) : List Int := List.replicate N 0
theorem make_run (W : World) (N : Nat) (hN : N ≤ 100000) : (Instr.makeSlice 23 (.int .i64 N) (.int .i64 N)).run Tryd.prog W = .ok (.slice (some ⟨W.heap.size, 0, none⟩) N N) (W.alloc (.cells (madeCells #[.int .u8 0] N) 5)) := by
  obtain ⟨i0, hi, hz0, hz1, hz2⟩ := info_parts info5
  have := run_make (P := Tryd.prog) W 23 5 i0 (.int .u8 0) Tryd.underlying23 hi hz0 .i64 .i64 N N (by omega) (Int.le_refl _) (by rw [hz2]; omega) (by omega)
  rw [Int.toNat_natCast, hz1, Nat.mul_one] at this
  exact this
theorem make_rb (W : World) (N : Nat) : RB (W.alloc (.cells (madeCells #[.int .u8 0] N) 5)) (some ⟨W.heap.size, 0, none⟩) N (zeros N) :=
  rb_lit W _ (zeros N) N (by simp [zeros]) (by rw [toList_madeCells_one]; simp [zeros]) (fun x hx => by simp [zeros] at hx; omega) _
theorem enc_zeros (a b : Int) (p : Option Addr) (c n : Nat) (xs : List Int) (w : World) (hn : xs.length = n) (hr : RB w p c xs) (ht : Tab w) (hl : n ≤ 140737488351232) (s : List Int × Int) (hs : encS a b xs = s) :
    Calls Tryd.prog 7 #[.int .i64 a, .int .i64 b, .slice p n c] w (EncPost s w) := by
  subst hn; subst hs
  exact enc_any a b p c xs w hr ht hl

/-- A copy of bytes by an append to an empty row: what it is the call's own. -/
theorem wpList_append_copy2 {P : Program} {w : World} {ops : Array Oper} {rest : List Oper} {o : Oper} {a : Act} {Q : Exit → Act → World → Prop} (hgd : o.guard = none) (s x : Operand) (t : TypeId)
    (ho : o.op = .call { callee := .builtin .append, args := #[s, x], argTypes := #[t, t] })
    (h1 : P.underlying t = some (.slice 5)) (h2 : (P.info? 5).map (fun i => (i.zero, i.size, i.bytes)) = some (some (.int .u8 0), 1, 1))
    (g : Nat) (hs : a.eval s = .slice (some ⟨g, 0, none⟩) 0 0) (hg : w.heap[g]? = some (.cells #[] 5 (0, 0))) (p : Option Addr) (c : Nat) (xs : List Int) (n : Nat) (hn : n = xs.length) (hx : a.eval x = .slice p n c) (hR : RB w p c xs) (hl : n ≤ 140737488351232)
    (hn0 : 0 < n) (h : ∀ v' w', w'.ownsRow g 5 1 v' n (xs.map (Value.int .u8)) → Below g w w' → wpList P ops Q rest (a.put o.dst v') w') : wpList P ops Q (o :: rest) a w := by
  subst hn
  refine wpList_plain hgd fun K hK' => ?_
  obtain ⟨i0, hi, hz0, hz1, hz2⟩ := info_parts h2
  have hgl : g < w.heap.size := (Array.getElem?_eq_some_iff.1 hg).1
  have hown : w.ownsRow g 5 1 (.slice (some ⟨g, 0, none⟩) 0 0) 0 [] := ⟨rfl, .inr ⟨g, 0, #[], rfl, Nat.le_refl _, hg, Nat.le_refl _, by decide, rfl, rfl⟩⟩
  obtain ⟨b, o', rfl, hc⟩ := hR.2.2.1 hn0
  have hc1 : ∀ j u, (xs.map (Value.int .u8))[j]? = some u → w.cell? ((⟨b, o', none⟩ : Addr).add j) = some u := fun j u hj => by
    rw [List.getElem?_map] at hj
    have hjl : j < xs.length := by
      rcases Nat.lt_or_ge j xs.length with h | h
      · exact h
      · rw [List.getElem?_eq_none h] at hj; cases hj
    rw [Addr.add_lit, hc j hjl]
    rw [List.getElem?_eq_getElem hjl] at hj
    simp [List.getD, hjl] at hj ⊢
    exact hj
  obtain ⟨v', w', hr, hown', hgrow, _⟩ := run_append_own (P := P) w g t o.type 5 i0 (.int .u8 0) 1 1 h1 hi hz0 hz1 hz2 rfl (by decide) (.slice (some ⟨g, 0, none⟩) 0 0) 0 [] hown ⟨b, o', none⟩ xs.length c (xs.map (Value.int .u8)) (by simp) hc1 (fun u hu => by obtain ⟨x, _, rfl⟩ := List.mem_map.1 hu; rfl) (by unfold maxLen; omega) (by omega) (by omega)
  rw [List.nil_append, Nat.zero_add] at hown'
  unfold Oper.wp execOp
  simp only [ho, resolve, invoke, builtin, Sem.run_bind, Sem.run_pure, Result.andThen_ok, List.map_toArray, List.map_cons, List.map_nil, hs, hx, hr]
  exact hK' _ _ (h v' w' hown' ((Below.refl _ _).grown hgrow (by omega) (fun k hk => by simp [Value.ownBlock] at hk; omega)))

set_option maxHeartbeats 1000000 in
theorem size_any (x y z : Int) (hx0 : 0 ≤ x) (hx1 : x ≤ 255) (hy0 : 0 ≤ y) (hy1 : y ≤ 255) (hz0 : 0 ≤ z) (hz1 : z ≤ 255) (w : World) (ht : Tab w) :
    Calls Tryd.prog 5 #[.int .u8 x, .int .u8 y, .int .u8 z] w (TruePost w) := by
  have HT := Lib.hid ht
  obtain ⟨a, ha⟩ : ∃ a, x % 30 + 1 = a := ⟨_, rfl⟩
  obtain ⟨b, hb⟩ : ∃ b, y % 30 + 1 = b := ⟨_, rfl⟩
  have a1 : 1 ≤ a := by omega
  have a2 : a ≤ 30 := by omega
  have b1 : 1 ≤ b := by omega
  have b2 : b ≤ 30 := by omega
  have hA : Side a := ⟨a1, by omega⟩
  have hB : Side b := ⟨b1, by omega⟩
  have hab : 1 ≤ a * b ∧ a * b ≤ 30 * 30 :=
    ⟨by have := Int.mul_le_mul (a := 1) (b := 1) (c := a) (d := b) (by omega) (by omega) (by omega) (by omega); omega, Int.mul_le_mul (by omega) (by omega) (by omega) (by omega)⟩
  obtain ⟨N, hN⟩ : ∃ N : Nat, (N : Int) = 3 * a * b := ⟨(3 * a * b).toNat, by rw [Int.mul_assoc]; omega⟩
  have hN1 : 3 ≤ N ∧ N ≤ 2700 := by rw [Int.mul_assoc] at hN; omega
  have hw : wrap64 (3 * a * b) = (N : Int) := by rw [← hN]; unfold wrap64; omega
  have es : encS a b (zeros N) = (nums (headL a b) ++ zeros N, 0) := by
    unfold encS; rw [if_pos ⟨hA, hB⟩, if_pos (by rw [← hN]; simp [zeros])]
  have es2 : encS a b (zeros (N + 1)) = ([], 11) := by
    unfold encS; rw [if_pos ⟨hA, hB⟩, if_neg (by rw [← hN]; simp [zeros]; omega)]
  have h13 := head30_len a1 a2 b1 b2
  obtain ⟨F, hF⟩ : ∃ F, F = nums (headL a b) ++ zeros N := ⟨_, rfl⟩
  have hFl : F.length = (headL a b).length + N := by rw [hF, List.length_append, nums_length]; simp [zeros]
  rw [← hF] at es
  have hm1 := fun W => make_run W N (by omega)
  have hm2 := fun W => make_run W (N + 1) (by omega)
  rw [show ((N + 1 : Nat) : Int) = (N : Int) + 1 by omega] at hm2
  have HES := Lib.hid es
  have HES2 := Lib.hid es2
  have HFF := Lib.hid hF
  have HNN := Lib.hid hN
  obtain ⟨L, hL⟩ : ∃ L, L = F.length := ⟨_, rfl⟩
  have hL1 : N + 11 ≤ L ∧ L ≤ N + 13 := by omega
  have HL := Lib.hid hL
  have HA := Lib.hid hA
  have HB := Lib.hid hB
  obtain ⟨k, hk⟩ : ∃ k : Nat, z % (L : Int) = (k : Int) := ⟨(z % (L : Int)).toNat, by have := Int.emod_nonneg z (show (L : Int) ≠ 0 by omega); omega⟩
  have hkL : k < L := by have := Int.emod_lt_of_pos z (show (0 : Int) < L by omega); omega
  have HK := Lib.hid hk
  clear ht hab es es2 hF hFl hN hL hk hA hB h13
  go_enter Tryd.func5, Tryd.ntmps5
  go_wp2_with fail
  refine (enc_zeros a b (some ⟨w.heap.size, 0, none⟩) N N (zeros N) _ (by simp [zeros]) (make_rb w N) (Bel.tab ((Bel.refl w).alloc _) HT.out) (by omega) _ HES.out).mono ?_
  rintro e w1 ⟨p1, c1, rfl, hR1, hb1⟩
  have HR1 := Lib.hid hR1
  have HBEL1 := Lib.hid (((Bel.refl w).alloc _).then hb1)
  clear hR1 hb1
  dsimp only at HR1 ⊢
  rw [← HL.out]
  go_wp2_with fail
  refine (mod_any z L w1 hz0 hz1 (by omega) (by omega)).mono ?_
  rintro e w2 ⟨rfl, hw2⟩
  obtain rfl : w1 = w2 := hw2
  rw [HK.out]
  have hkc : k ≤ c1 := by have := HR1.out.1; rw [← HL.out] at this; omega
  have hkL' : (k : Int) ≤ (L : Int) := by omega
  go_wp2_with fail
  have HT1 : Hid (Tab w1) := HBEL1.out.tab HT.out
  refine (pdec_none p1 c1 k (F.take k) w1 (by rw [List.length_take, ← HL.out]; omega) (HR1.out.prefix k) (by omega) HT1.out (by rw [HFF.out]; exact cut_bad HA.out HB.out HNN.out (by simp [zeros]) (by rw [← HFF.out, ← HL.out]; exact hkL))).mono ?_
  rintro e w3 ⟨p3, c3, rfl, hb3⟩
  have HBEL3 := Lib.hid (Bel.then (Bel.refl w1) hb3)
  have HR3 : Hid (RB w3 p1 c1 F) := HR1.out.below hb3
  clear hb3
  have hLb : L ≤ 140737488351232 := by omega
  have hL0 : 0 < L := by omega
  obtain ⟨i0, hi, hz0, hz1, hz2⟩ := info_parts info5
  have hq1 : L + 1 ≤ maxLen := by unfold maxLen; omega
  have hq2 : (L + 1) * 1 ≤ 140737488355328 := by omega
  have hone : ∀ u ∈ [Value.int .u8 0], u.oneCell' = true := by intro u hu; simp at hu; subst hu; rfl
  go_wp2_with (first
    | (at_builtin; (refine wpList_append_copy2 rfl _ _ 23 rfl Tryd.underlying23 info5 _ rfl (heap_alloc_new _ _) p1 c1 F L HL.out rfl (Bel.rb ((Bel.refl _).alloc _) HR3.out) hLb hL0 ?_); intro v4 w4 hown4 hb4; have HO4 := Lib.hid hown4; have HBEL4 := Lib.hid (Bel.at ((Bel.refl w3).alloc _) (Nat.le_refl _) hb4); clear hown4 hb4)
    | (at_builtin; (refine wpList_append_own _ rfl _ _ 23 rfl w3.heap.size 5 i0 (.int .u8 0) 1 1 Tryd.underlying23 hi hz0 hz1 hz2 rfl (by decide) _ _ _ rfl (HO4.out.alloc _) ⟨w4.heap.size, 0, none⟩ 1 1 [.int .u8 0] rfl rfl (cell_one_new _ _ _) hone hq1 hq2 (Nat.le_trans (Below.size HBEL4.out) (by simp)) ?_); intro v5 w5 hown5 hg5 _; have HO5 := Lib.hid hown5; have HBEL5 := Lib.hid (Bel.at (HBEL4.out.alloc _) (Nat.le_refl _) ((Below.refl _ _).grown hg5 (Nat.le_trans (Below.size HBEL4.out) (by simp)) (fun k hk => (HO4.out.lt k hk).1))); clear hown5 hg5))
  have hown5 := HO5.out
  rw [show F.map (Value.int .u8) ++ [Value.int .u8 0] = (F ++ [0]).map (Value.int .u8) by simp] at hown5
  obtain ⟨p5, c5, rfl, hR5⟩ := RB.own hown5 (fun x hx => by
    rcases List.mem_append.1 hx with h | h
    · exact HR1.out.2.2.2 x h
    · simp at h; omega)
  have HR5 := Lib.hid hR5
  have hl5 : (F ++ [0]).length = L + 1 := by rw [List.length_append, ← HL.out]; rfl
  rw [hl5]
  have HT5 : Hid (Tab w5) := Bel.tab HBEL5.out (HBEL3.out.tab HT1.out)
  refine (pdec_none p5 c5 (L + 1) (F ++ [0]) w5 hl5 HR5.out (by omega) HT5.out (by rw [HFF.out]; exact more_bad HA.out HB.out HNN.out (by simp [zeros]))).mono ?_
  rintro e w6 ⟨p6, c6, rfl, hb6⟩
  have HBEL6 := Lib.hid (Bel.then (Bel.refl w5) hb6)
  have HT6 : Hid (Tab w6) := HBEL6.out.tab HT5.out
  clear hb6 hown5 hR5
  go_wp2_with fail
  refine (enc_zeros a b (some ⟨w6.heap.size, 0, none⟩) (N + 1) (N + 1) (zeros (N + 1)) _ (by simp [zeros]) (make_rb w6 (N + 1)) (Bel.tab ((Bel.refl w6).alloc _) HT6.out) (by omega) _ HES2.out).mono ?_
  rintro e w7 ⟨p7, c7, rfl, hR7, hb7⟩
  have HBEL7 := Lib.hid (((Bel.refl w6).alloc _).then hb7)
  clear hR7 hb7
  go_wp2_with fail
  refine (wakes_any _ (HBEL7.out.tab HT6.out)).mono ?_
  rintro e w8 ⟨rfl, hb8⟩
  have HB8 := Lib.hid (HBEL1.out.trans (Bel.trans HBEL3.out (Bel.trans HBEL5.out (Bel.trans HBEL6.out (Bel.then HBEL7.out hb8)))))
  clear hb8
  go_wp2
  go_ret
  exact ⟨rfl, HB8.out⟩

theorem read5 : ∀ t ∈ Tryd.f5.params.toList, Tryd.prog.readableRec t = true ∧ t < Tryd.prog.types.size := by
  rw [Tryd.params5]
  intro t ht
  have hall : ([5, 5, 5].all fun u => Tryd.prog.readableRec u && decide (u < Tryd.prog.types.size)) = true := by kernel_rfl
  have := List.all_eq_true.1 hall t (by simpa using ht)
  simpa using this

set_option maxRecDepth 100000 in
theorem ppmSize_lifted (os : Os) (started : os.Started) (H : Type) (enc : TypeId × Value → H) :
    ReturnsInHanded {} Tryd.checked os 5 .any (fun w args => (Rows.ppmSizeSpec.pre enc Tryd.prog Tryd.f5 [] false w args ∧ laidMetH Tryd.prog lay w) ∧ sizedMet enc Tryd.prog Tryd.f5 (OpenSpec.ofChange Rows.ppmSizeSpec) false w args)
      (Rows.ppmSizeSpec.post enc Tryd.prog Tryd.f5 false true false false) := by
  refine returnsInHanded_of_change_and (C := Tryd.checked) (X := fun w _ => laidMetH Tryd.prog lay w) (fun _ _ _ hh h => h.of_heap hh) own started (by kernel_rfl) Tryd.func5
    (ChangeSpec.witness_shaped (enc := enc) (C := Tryd.checked) (os := os) (X := fun w _ => laidMetH Tryd.prog lay w) false (World.doorLaid Tryd.prog 400 os) #[.int .u8 0, .int .u8 0, .int .u8 0] 8 rfl (World.shaped_of_RefB (by kernel_rfl) (by kernel_rfl)) (by kernel_rfl) (by kernel_rfl) (by kernel_rfl) (door_met os _)) ?_
  intro W base args ds gs before hval0 hW _ _ hL _
  have hval : ∀ (j : Nat) t v, Tryd.f5.params[j]? = some t → args[j]? = some v → Value.okWide Tryd.prog W .any base t v := hval0
  have hW' := hW
  obtain ⟨p, q, hA0, hV, rfl, hfz, hnd⟩ := hW
  have hA : DataW.TrodAll enc Tryd.prog W 0 (fun _ => true) true Tryd.f5.params.toList args.toList ds p := hA0
  rw [Tryd.params5] at hA hval
  obtain ⟨v0, v1, v2, d0, d1, d2, p0, p1, p2, rfl, rfl, rfl, h0, h1, h2⟩ := trodAll_three hA
  obtain ⟨rfl, rfl⟩ := trodVars_none hV
  obtain ⟨x, rfl, rfl, rfl, wx⟩ := open_int Tryd.underlying5 (hval 0 5 v0 rfl rfl) h0
  obtain ⟨y, rfl, rfl, rfl, wy⟩ := open_int Tryd.underlying5 (hval 1 5 v1 rfl rfl) h1
  obtain ⟨z, rfl, rfl, rfl, wz⟩ := open_int Tryd.underlying5 (hval 2 5 v2 rfl rfl) h2
  have bx := bounds_u8 wx
  have by' := bounds_u8 wy
  have bz := bounds_u8 wz
  refine (size_any x y z bx.1 bx.2 by'.1 by'.2 bz.1 bz.2 W (tab_of hL)).mono fun e W' ⟨he, hw⟩ => ?_
  subst he
  exact ⟨_, rfl, law_post laidOut rfl hW' read5 (by kernel_rfl) Tryd.underlying4 rfl hw⟩

theorem ppmSize_holds : Rows.PpmSizeSaid :=
  OpenClaim.holds_of_wide 5 Tryd.f5 rfl rfl rfl rfl rfl rfl rfl ⟨rfl, rfl, rfl, rfl, rfl⟩ rfl rfl rfl rfl rfl (by kernel_rfl) Tryd.func5 (by kernel_rfl)
    (of_decide_eq_true (by kernel_rfl)) (by unfold Func.isWrapper; first | (rw [if_pos (by decide +kernel)]; kernel_rfl) | (rw [if_neg (by decide +kernel)]; exact ⟨rfl, rfl⟩))
    (fun os started H enc _ => ppmSize_lifted os started H enc)

/-- THE TIED CARD. -/
theorem ppmSize_card : Rows.PpmSizeCardSaid :=
  Claim7.holds_tied_plain_at .later [] [.data, .data, .data] true (true, "cf2896a65fdd45d3d2ce2c2f9d52e4b1daef6a630336dd8a6eac9f5485ed8d8d") false
    ppmSize_holds (fun _ h => by cases h) (by kernel_rfl) (fun _ h => by cases h) ppmSize_row_tie rfl ⟨rfl, rfl⟩ (by kernel_rfl) rfl
    (fun f fn hf hfn => by
      obtain rfl : f = 5 := Option.some.inj ((show Tryd.prog.funcNamed "gesso/gessolaw29.PpmSize" = some 5 by kernel_rfl).symm.trans hf) |>.symm
      obtain rfl : fn = Tryd.f5 := (Option.some.inj (Tryd.func5.symm.trans hfn)).symm
      exact ⟨by kernel_rfl, fun j t ht => by
        rw [Tryd.params5] at ht
        have hm : t ∈ [5, 5, 5] := by simpa using Array.mem_of_getElem? ht
        have hall : ([5, 5, 5].all fun u => !Tryd.prog.wantsStandIn u) = true := by kernel_rfl
        exact (show Tryd.prog.wantsStandIn t = false by simpa using List.all_eq_true.1 hall t hm)⟩)
    (by kernel_rfl)
#print axioms ppmSize_card
end Go.Proofs.YtokfbeikpbnpgaaDoor
