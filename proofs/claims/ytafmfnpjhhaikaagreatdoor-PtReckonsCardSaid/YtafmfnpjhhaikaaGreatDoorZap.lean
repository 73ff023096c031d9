/-
  gessoref01: the reference's numbers; In, Of, Out.
-/
import Derived.Test.YtafmfnpjhhaikaaGreatDoorZao
namespace Go.Proofs.YtafmfnpjhhaikaaGreatDoor
open Go.RowKit Go.Shelf
/-- A number of the reference. -/
def NR (w : World) (v : Value) (n : Nat) : Prop := ∃ p c, v = .slice p (limB B32 n).length c ∧ R32 w (.slice p (limB B32 n).length c) (limB B32 n) ∧ PlainP p
theorem NR.bel {w w' : World} {v : Value} {n : Nat} (h : NR w v n) (hb : Bel w w') : NR w' v n := by
  obtain ⟨p, c, h1, h2, h3⟩ := h
  exact ⟨p, c, h1, h2.bel hb, h3⟩
theorem NR.only {b t : Nat} {w w' : World} {v : Value} {cs : Array Value} {fr : Nat × Nat} {n : Nat} (h : NR w v n) (ho : OnlyG b w w') (hb : w.heap[b]? = some (.cells cs t fr)) (hn : NoInt .u32 cs) : NR w' v n := by
  obtain ⟨p, c, h1, h2, h3⟩ := h
  exact ⟨p, c, h1, row_only h2 ho hb hn, h3⟩
theorem NR.slice {w : World} {v : Value} {n : Nat} (h : NR w v n) : ∃ p c k, v = .slice p k c ∧ (k = 0 ↔ n = 0) := by
  obtain ⟨p, c, rfl, _⟩ := h
  exact ⟨p, c, _, rfl, by rw [List.length_eq_zero_iff]; exact lim_nil b32_two⟩
theorem nr_nil (w : World) : NR w (.slice none 0 0) 0 := ⟨none, 0, by rw [lim_zero]; rfl, by rw [lim_zero]; exact LRow.nil _ _ _, .inl rfl⟩
theorem nr_of {w w' : World} {p : Option Addr} {c n : Nat} (h : O32 w' w.heap.size (.slice p (limB B32 n).length c) (limB B32 n)) : NR w' (.slice p (limB B32 n).length c) n := ⟨p, c, rfl, h.row, h.plain⟩
theorem mk_rin {w : World} {a : Value} {n : Nat} (ha : NI w a n) : Calls Tryz.prog 73 #[a] w (Makes w fun v w' => NR w' v n) := by
  obtain ⟨p1, c1, l1, rfl, r1, q1, rfl, k1⟩ := ha
  refine (rin_any p1 c1 l1 w r1 (by omega)).mono ?_
  rintro e w' ⟨p, c, rfl, ho, hb⟩
  exact ⟨_, rfl, hb, nr_of ho⟩
theorem mk_r1of (x : Nat) (hx : x < B64) (w : World) : Calls Tryz.prog 74 #[.int .u64 (x : Int)] w (Makes w fun v w' => NR w' v x) := by
  have hin : NI (w.alloc (.cells #[.int .u64 (x : Int)] 105)) (.slice (some ⟨w.heap.size, 0, none⟩) 1 1) x := by
    refine ⟨some ⟨w.heap.size, 0, none⟩, 1, [x], rfl, ⟨_, 1, rfl, Nat.le_refl _, fun y hy => by simp at hy; omega, fun _ => ⟨w.heap.size, 0, rfl, fun j y hj => ?_⟩⟩, .inr ⟨_, _, rfl⟩, by simp [valB], by simp⟩
    match j, hj with
    | 0, hj => simp at hj; subst hj; exact (heap_cell (heap_alloc_new w _) 0).trans rfl
    | j + 1, hj => simp at hj
  have HI := Lib.hid (mk_rin hin)
  clear hin
  go_enter Tryz.func74, Tryz.ntmps74
  go_wp2_with (go_at_call 73; (with_reducible refine HI.out.mono ?_); rintro e w1 ⟨v1, rfl, hb1, hv1⟩; have HB1 := Lib.hid hb1; have HV := Lib.hid hv1; clear hb1 hv1)
  go_ret
  exact ⟨_, rfl, ((Bel.refl w).alloc _).trans HB1.out, HV.out⟩
/-- Limbs of 32 bits, two and two. -/
def pairL : List Nat → List Nat
  | [] => []
  | [x] => [x]
  | x :: y :: l => (x + y * B32) :: pairL l
theorem pair_lim (n : Nat) : pairL (limB B32 n) = limB B64 n := by
  induction n using Nat.strongRecOn with
  | _ n ih =>
    have e : B64 = B32 * B32 := by decide
    by_cases h0 : n = 0
    · subst h0; rw [lim_zero, lim_zero]; rfl
    · rw [lim_pos b32_two (by omega)]
      have hb : 0 < B32 := by decide
      by_cases h1 : n / B32 = 0
      · have h2 : n < B32 := by
          rcases Nat.div_eq_zero_iff.1 h1 with h | h
          · omega
          · exact h
        rw [h1, lim_zero]
        simp only [pairL]
        rw [Nat.mod_eq_of_lt h2, lim_small b64_two (by omega) (by have : B32 ≤ B64 := by decide
                                                                  omega)]
      · rw [lim_pos b32_two (Nat.pos_of_ne_zero h1)]
        simp only [pairL]
        rw [Nat.div_div_eq_div_mul, ← e, ih (n / B64) (Nat.div_lt_self (Nat.pos_of_ne_zero h0) (by decide)), lim_pos (n := n) b64_two (Nat.pos_of_ne_zero h0)]
        congr 1
        rw [e, Nat.mod_mul, Nat.mul_comm (n / B32 % B32)]
theorem pair_drop {l : List Nat} {i x y : Nat} (hx : l[i]? = some x) (hy : l[i + 1]? = some y) : pairL (l.drop i) = (x + y * B32) :: pairL (l.drop (i + 2)) := by
  obtain ⟨h1, e1⟩ := List.getElem?_eq_some_iff.1 hx
  obtain ⟨h2, e2⟩ := List.getElem?_eq_some_iff.1 hy
  rw [List.drop_eq_getElem_cons h1, List.drop_eq_getElem_cons h2, e1, e2]
  rfl
theorem pair_last {l : List Nat} {i x : Nat} (hx : l[i]? = some x) (hl : l.length = i + 1) : pairL (l.drop i) = [x] := by
  obtain ⟨h1, e1⟩ := List.getElem?_eq_some_iff.1 hx
  rw [List.drop_eq_getElem_cons h1, e1, List.drop_of_length_le (by omega)]
  rfl
set_option maxRecDepth 100000 in
set_option maxHeartbeats 1000000 in
theorem rout_any (p : Option Addr) (c n : Nat) (w : World) (h : R32 w (.slice p (limB B32 n).length c) (limB B32 n)) (hl : (limB B32 n).length < 1000000000) :
    Calls Tryz.prog 126 #[.slice p (limB B32 n).length c] w fun e w' => ∃ p' c', e = .returned (.slice p' (limB B64 n).length c') ∧
      O64 w' w.heap.size (.slice p' (limB B64 n).length c') (limB B64 n) ∧ Bel w w' := by
  have HP := Lib.hid (pair_lim n)
  have HB6 := Lib.hid (lim_all b64_two n)
  obtain ⟨l, hl'⟩ : ∃ l, limB B32 n = l := ⟨_, rfl⟩
  obtain ⟨L, hL⟩ : ∃ L, limB B64 n = L := ⟨_, rfl⟩
  rw [hl'] at h hl HP ⊢
  rw [hL] at HP HB6 ⊢
  have H := Lib.hid h
  clear h hl' hL
  go_enter Tryz.func126, Tryz.ntmps126
  go_wp2
  go_loopg [3, 4] l.length (fun gf s3 s4 wx => ∃ (i : Nat) (o : List Nat) (q : Option Addr) (cq : Nat), s4 = .int .i64 i ∧ s3 = .slice q o.length cq ∧ l.length ≤ i + gf ∧ i ≤ l.length + 1 ∧ o ++ pairL (l.drop i) = L ∧ o.length ≤ i ∧ O64 wx w.heap.size (.slice q o.length cq) o ∧ Bel w wx)
  case atStart => exact ⟨0, [], none, 0, rfl, rfl, by omega, by omega, by simpa using HP.out, by simp, LOwn.nil _ _ _ _ _, Bel.refl w⟩
  case round =>
    obtain ⟨i, o, q, cq, rfl, rfl, hig, hi1, ho, hoi, hown, hb⟩ := hrel
    have HOWN := Lib.hid hown
    have HB := Lib.hid hb
    have HO := Lib.hid ho
    clear hown hb ho
    by_cases hlt : i < l.length
    · obtain ⟨gk', rfl⟩ : ∃ g, gk = g + 1 := ⟨gk - 1, by omega⟩
      obtain ⟨x, hx⟩ : ∃ x, l[i]? = some x := ⟨_, List.getElem?_eq_getElem hlt⟩
      obtain ⟨b, of, c', he, hlc, q0, hxb⟩ := (H.out.bel HB.out).at hx
      simp only [Value.slice.injEq] at he
      obtain ⟨rfl, _, rfl⟩ := he
      have HX := Lib.hid hx
      have hxB : x < 4294967296 := hxb
      clear hx
      by_cases hl2 : i + 1 < l.length
      · obtain ⟨y, hy⟩ : ∃ y, l[i + 1]? = some y := ⟨_, List.getElem?_eq_getElem hl2⟩
        obtain ⟨b2, of2, c2, he2, hlc2, q1, hyb⟩ := (H.out.bel HB.out).at hy
        simp only [Value.slice.injEq, Option.some.injEq, Addr.mk.injEq] at he2
        obtain ⟨⟨rfl, rfl, _⟩, _, rfl⟩ := he2
        have HY := Lib.hid hy
        have hyB : y < 4294967296 := hyb
        clear hy
        obtain ⟨V, hV⟩ : ∃ V, x + y * 4294967296 = V := ⟨_, rfl⟩
        have hVi : (x : Int) + (y : Int) * 4294967296 = (V : Int) := by omega
        have hVB : V < B64 := by have : B64 = 18446744073709551616 := rfl
                                 omega
        have HST : Hid ((o ++ [V]) ++ pairL (l.drop (i + 2)) = L) := by
          unfold Hid
          rw [← HO.out, pair_drop HX.out HY.out, ← hV]
          simp [B32]
        clear hV
        go_wp2_with (at_builtin; (refine wpList_limb64 (W := wr) (w0 := w) rfl (.tmp 31) (.tmp 33) rfl (.slice q o.length cq) o rfl HOWN.out HB.out _ rfl rfl V hVB (by omega) ?_); intro g3 c3 w3 ho3 hb3; have HO3 := Lib.hid ho3; have HB3 := Lib.hid hb3; clear ho3 hb3)
        go_roundg gk'
        case measure => omega
        case rel =>
          have hlen : (o ++ [V]).length = o.length + 1 := by simp
          exact ⟨i + 2, o ++ [V], some ⟨g3, 0, none⟩, c3, by go_num, by rw [hlen], by omega, by omega, HST.out, by rw [hlen]; omega, by rw [hlen]; exact HO3.out, HB3.out⟩
      · have hil : l.length = i + 1 := by omega
        have hVB : x < B64 := by have : B64 = 18446744073709551616 := rfl
                                 omega
        have HST : Hid ((o ++ [x]) ++ pairL (l.drop (i + 2)) = L) := by
          unfold Hid
          rw [← HO.out, pair_last HX.out hil, List.drop_of_length_le (by omega)]
          simp [pairL]
        have HIL := Lib.hid hil
        clear hil
        go_wp2_with (at_builtin; (refine wpList_limb64 (W := wr) (w0 := w) rfl (.tmp 31) (.tmp 33) rfl (.slice q o.length cq) o rfl HOWN.out HB.out _ rfl rfl x hVB (by omega) ?_); intro g3 c3 w3 ho3 hb3; have HO3 := Lib.hid ho3; have HB3 := Lib.hid hb3; clear ho3 hb3)
        go_roundg gk'
        case measure => omega
        case rel =>
          have hlen : (o ++ [x]).length = o.length + 1 := by simp
          exact ⟨i + 2, o ++ [x], some ⟨g3, 0, none⟩, c3, by go_num, by rw [hlen], by omega, by have := HIL.out; omega, HST.out, by rw [hlen]; omega, by rw [hlen]; exact HO3.out, HB3.out⟩
    · have hfin : o = L := by
        rw [← HO.out, List.drop_of_length_le (by omega)]
        simp [pairL]
      have HF := Lib.hid hfin
      clear hfin
      go_wp2
      go_ret
      rw [← HF.out]
      exact ⟨q, cq, rfl, HOWN.out, HB.out⟩
theorem mk_rout {w : World} {a : Value} {n : Nat} (ha : NR w a n) (hf : (limB B32 n).length < 1000000000) : Calls Tryz.prog 126 #[a] w (Makes w fun v w' => NC w' v n) := by
  obtain ⟨p1, c1, rfl, r1, q1⟩ := ha
  refine (rout_any p1 c1 n w r1 hf).mono ?_
  rintro e w' ⟨p, c, rfl, ho, hb⟩
  exact ⟨_, rfl, hb, nc_of ho⟩
theorem cmpN_gt {m n : Nat} (h : n < m) : cmpN m n = 1 := by unfold cmpN; rw [if_neg (by omega), if_neg (by omega)]
theorem cmpN_self (n : Nat) : cmpN n n = 0 := by unfold cmpN; rw [if_neg (by omega), if_pos rfl]
set_option maxRecDepth 100000 in
set_option maxHeartbeats 1000000 in
theorem rcmp_any (p1 p2 : Option Addr) (c1 c2 : Nat) (l1 l2 : List Nat) (w : World) (h1 : R32 w (.slice p1 l1.length c1) l1) (h2 : R32 w (.slice p2 l2.length c2) l2) (t1 : trimL l1 = l1) (t2 : trimL l2 = l2) (hl1 : l1.length < 1000000000) (_ : l2.length < 1000000000) :
    Calls Tryz.prog 167 #[.slice p1 l1.length c1, .slice p2 l2.length c2] w (Makes w fun v _ => v = .int .i64 (cmpN (valB B32 l1) (valB B32 l2))) := by
  have H1 := Lib.hid h1
  have H2 := Lib.hid h2
  have A1 := Lib.hid h1.all
  have A2 := Lib.hid h2.all
  clear h1 h2
  by_cases hlt : l1.length < l2.length
  · rw [cmpN_lt (cmp_len b32_two A1.out t2 hlt)]
    have hne : l1.length ≠ l2.length := by omega
    clear t1 t2
    go_enter Tryz.func167, Tryz.ntmps167
    go_wp2
    go_ret
    exact ⟨_, rfl, Bel.refl w, rfl⟩
  · by_cases hgt : l2.length < l1.length
    · rw [cmpN_gt (cmp_len b32_two A2.out t1 hgt)]
      have hne : l1.length ≠ l2.length := by omega
      clear t1 t2
      go_enter Tryz.func167, Tryz.ntmps167
      go_wp2
      go_ret
      exact ⟨_, rfl, Bel.refl w, rfl⟩
    · have hle : l1.length = l2.length := by omega
      have HLE := Lib.hid hle
      obtain ⟨n, hn⟩ : ∃ n, l1.length = n := ⟨_, rfl⟩
      have hn2 : l2.length = n := by omega
      have HN1 := Lib.hid hn
      have HN2 := Lib.hid hn2
      rw [hn2, hn]
      have hnb : n < 1000000000 := by omega
      clear t1 t2 hl1 hlt hgt hle hn hn2
      obtain ⟨C, hC⟩ : ∃ C, cmpN (valB B32 l1) (valB B32 l2) = C := ⟨_, rfl⟩
      rw [hC]
      have HC := Lib.hid hC
      clear hC
      go_enter Tryz.func167, Tryz.ntmps167
      go_wp2
      go_loopg [5] n (fun gf s5 wx => ∃ k : Nat, s5 = .int .i64 ((k : Int) - 1) ∧ k ≤ n ∧ k ≤ gf ∧ l1.drop k = l2.drop k ∧ Bel w wx)
      case atStart => exact ⟨n, by go_num, Nat.le_refl _, Nat.le_refl _, by rw [List.drop_of_length_le (by have := HN1.out; omega), List.drop_of_length_le (by have := HN2.out; omega)], Bel.refl w⟩
      case round =>
        obtain ⟨k, rfl, hk, hkg, hrel, hb⟩ := hrel
        have HREL := Lib.hid hrel
        have HB := Lib.hid hb
        clear hrel hb
        cases k with
        | zero =>
          go_wp2
          go_ret
          have h0 : l1 = l2 := HREL.out
          exact ⟨_, rfl, HB.out, by rw [← HC.out, h0, cmpN_self]; rfl⟩
        | succ k =>
          obtain ⟨gk', rfl⟩ : ∃ g, gk = g + 1 := ⟨gk - 1, by omega⟩
          obtain ⟨x, hx⟩ : ∃ x, l1[k]? = some x := ⟨_, List.getElem?_eq_getElem (by have := HN1.out; omega)⟩
          obtain ⟨y, hy⟩ : ∃ y, l2[k]? = some y := ⟨_, List.getElem?_eq_getElem (by have := HN2.out; omega)⟩
          obtain ⟨b1, o1, e1, he1, hc1, q1, _⟩ := (H1.out.bel HB.out).at hx
          obtain ⟨b2, o2, e2, he2, hc2, q2, _⟩ := (H2.out.bel HB.out).at hy
          rw [HN1.out] at he1 hc1
          rw [HN2.out] at he2 hc2
          simp only [Value.slice.injEq] at he1 he2
          obtain ⟨rfl, _, rfl⟩ := he1
          obtain ⟨rfl, _, rfl⟩ := he2
          have HX := Lib.hid hx
          have HY := Lib.hid hy
          have Q1 := Lib.hid q1
          have Q2 := Lib.hid q2
          have ek : ((k + 1 : Nat) : Int) - 1 = (k : Int) := by omega
          rw [ek]
          have hkn : k < n := by omega
          clear hx hy q1 q2 ek
          go_upto_region 8 with fail
          have hdx := List.drop_eq_getElem_cons (l := l1) (i := k) (by have := HN1.out; omega)
          have hdy := List.drop_eq_getElem_cons (l := l2) (i := k) (by have := HN2.out; omega)
          have hxe : l1[k]'(by have := HN1.out; omega) = x := (List.getElem?_eq_some_iff.1 HX.out).2
          have hye : l2[k]'(by have := HN2.out; omega) = y := (List.getElem?_eq_some_iff.1 HY.out).2
          rw [hxe] at hdx
          rw [hye] at hdy
          have HDX := Lib.hid hdx
          have HDY := Lib.hid hdy
          clear hdx hdy hxe hye
          by_cases hxy : x = y
          · subst hxy
            refine region_flow 9 [[], [], [0, 1], [2], [], [], [4, 5], [6], [3, 7]] [.is (.slice (some ⟨b1, o1, none⟩) n c1), .is (.int .i64 (k : Nat)), .is (.pointer (some ⟨b1, o1 + k, none⟩)), .is (.int .u32 (x : Nat)), .is (.slice (some ⟨b2, o2, none⟩) n c2), .is (.int .i64 (k : Nat)), .is (.pointer (some ⟨b2, o2 + k, none⟩)), .is (.int .u32 (x : Nat)), .is (.bool false)] (by kernel_rfl) (by kernel_rfl) rfl (by simp only [Steady]) ?_
            simp only [List.take_succ_cons, List.take_zero, List.drop_succ_cons, List.drop_zero]
            refine fV (by rfl) (by intro w1 hw1 hk1; go_simp) ?_
            simp only [Act.put, sA, sB, sC]
            refine fV (by rfl) (by intro w1 hw1 hk1; go_simp) ?_
            simp only [Act.put, sA, sB, sC]
            refine flow_is (by intro w1 hw1 hk1; refine want (by rfl) (gives_val ?_); go_simp; (first | done | (intro h; omega))) ?_
            simp only [Act.put, sA, sB, sC]
            refine flow_is (by intro w1 hw1 hk1; have q := hw1.cell Q1.out; refine want (by rfl) (gives_val ?_); go_simp) ?_
            simp only [Act.put, sA, sB, sC]
            refine fV (by rfl) (by intro w1 hw1 hk1; go_simp) ?_
            simp only [Act.put, sA, sB, sC]
            refine fV (by rfl) (by intro w1 hw1 hk1; go_simp) ?_
            simp only [Act.put, sA, sB, sC]
            refine flow_is (by intro w1 hw1 hk1; refine want (by rfl) (gives_val ?_); go_simp; (first | done | (intro h; omega))) ?_
            simp only [Act.put, sA, sB, sC]
            refine flow_is (by intro w1 hw1 hk1; have q := hw1.cell Q2.out; refine want (by rfl) (gives_val ?_); go_simp) ?_
            simp only [Act.put, sA, sB, sC]
            refine flow_is (by intro w1 hw1 hk1; refine want (by rfl) (gives_val ?_); go_simp; (first | done | simp)) ?_
            simp only [Act.put, sA, sB, sC]
            intro w1 hw1 hk1
            have HB3 := Lib.hid (HB.out.trans hw1)
            clear hw1
            go_wp2
            go_roundg gk'
            case measure => omega
            case rel => exact ⟨k, by go_num, by omega, by omega, by rw [HDX.out, HDY.out, HREL.out], HB3.out⟩
          · have HK := Lib.hid hxy
            refine region_flow 9 [[], [], [0, 1], [2], [], [], [4, 5], [6], [3, 7]] [.is (.slice (some ⟨b1, o1, none⟩) n c1), .is (.int .i64 (k : Nat)), .is (.pointer (some ⟨b1, o1 + k, none⟩)), .is (.int .u32 (x : Nat)), .is (.slice (some ⟨b2, o2, none⟩) n c2), .is (.int .i64 (k : Nat)), .is (.pointer (some ⟨b2, o2 + k, none⟩)), .is (.int .u32 (y : Nat)), .is (.bool true)] (by kernel_rfl) (by kernel_rfl) rfl (by simp only [Steady]) ?_
            simp only [List.take_succ_cons, List.take_zero, List.drop_succ_cons, List.drop_zero]
            refine fV (by rfl) (by intro w1 hw1 hk1; go_simp) ?_
            simp only [Act.put, sA, sB, sC]
            refine fV (by rfl) (by intro w1 hw1 hk1; go_simp) ?_
            simp only [Act.put, sA, sB, sC]
            refine flow_is (by intro w1 hw1 hk1; refine want (by rfl) (gives_val ?_); go_simp; (first | done | (intro h; omega))) ?_
            simp only [Act.put, sA, sB, sC]
            refine flow_is (by intro w1 hw1 hk1; have q := hw1.cell Q1.out; refine want (by rfl) (gives_val ?_); go_simp) ?_
            simp only [Act.put, sA, sB, sC]
            refine fV (by rfl) (by intro w1 hw1 hk1; go_simp) ?_
            simp only [Act.put, sA, sB, sC]
            refine fV (by rfl) (by intro w1 hw1 hk1; go_simp) ?_
            simp only [Act.put, sA, sB, sC]
            refine flow_is (by intro w1 hw1 hk1; refine want (by rfl) (gives_val ?_); go_simp; (first | done | (intro h; omega))) ?_
            simp only [Act.put, sA, sB, sC]
            refine flow_is (by intro w1 hw1 hk1; have q := hw1.cell Q2.out; refine want (by rfl) (gives_val ?_); go_simp) ?_
            simp only [Act.put, sA, sB, sC]
            refine flow_is (by intro w1 hw1 hk1; refine want (by rfl) (gives_val ?_); go_simp; (first | done | (have := HK.out; omega) | (simp; have := HK.out; omega))) ?_
            simp only [Act.put, sA, sB, sC]
            intro w1 hw1 hk1
            have HB3 := Lib.hid hw1
            clear hw1 hxy
            go_upto_region 9 with fail
            by_cases hlt : x < y
            · have HK2 := Lib.hid hlt
              have hr : C = -1 := by rw [← HC.out]; exact cmpN_lt (cmp_at A1.out HLE.out HREL.out HX.out HY.out hlt)
              subst hr
              clear hlt
              refine region_flow 9 [[], [], [0, 1], [2], [], [], [4, 5], [6], [3, 7]] [.is (.slice (some ⟨b1, o1, none⟩) n c1), .is (.int .i64 (k : Nat)), .is (.pointer (some ⟨b1, o1 + k, none⟩)), .is (.int .u32 (x : Nat)), .is (.slice (some ⟨b2, o2, none⟩) n c2), .is (.int .i64 (k : Nat)), .is (.pointer (some ⟨b2, o2 + k, none⟩)), .is (.int .u32 (y : Nat)), .is (.bool true)] (by kernel_rfl) (by kernel_rfl) rfl (by simp only [Steady]) ?_
              simp only [List.take_succ_cons, List.take_zero, List.drop_succ_cons, List.drop_zero]
              refine fV (by rfl) (by intro w1 hw1 hk1; go_simp) ?_
              simp only [Act.put, sA, sB, sC]
              refine fV (by rfl) (by intro w1 hw1 hk1; go_simp) ?_
              simp only [Act.put, sA, sB, sC]
              refine flow_is (by intro w1 hw1 hk1; refine want (by rfl) (gives_val ?_); go_simp; (first | done | (intro h; omega))) ?_
              simp only [Act.put, sA, sB, sC]
              refine flow_is (by intro w1 hw1 hk1; have q := (HB3.out.trans hw1).cell Q1.out; refine want (by rfl) (gives_val ?_); go_simp) ?_
              simp only [Act.put, sA, sB, sC]
              refine fV (by rfl) (by intro w1 hw1 hk1; go_simp) ?_
              simp only [Act.put, sA, sB, sC]
              refine fV (by rfl) (by intro w1 hw1 hk1; go_simp) ?_
              simp only [Act.put, sA, sB, sC]
              refine flow_is (by intro w1 hw1 hk1; refine want (by rfl) (gives_val ?_); go_simp; (first | done | (intro h; omega))) ?_
              simp only [Act.put, sA, sB, sC]
              refine flow_is (by intro w1 hw1 hk1; have q := (HB3.out.trans hw1).cell Q2.out; refine want (by rfl) (gives_val ?_); go_simp) ?_
              simp only [Act.put, sA, sB, sC]
              refine flow_is (by intro w1 hw1 hk1; refine want (by rfl) (gives_val ?_); go_simp; (first | done | (have := HK2.out; omega) | (simp; have := HK2.out; omega))) ?_
              simp only [Act.put, sA, sB, sC]
              intro w1 hw1 hk1
              have HB4 := Lib.hid (HB.out.trans (HB3.out.trans hw1))
              clear hw1
              go_wp2
              go_ret
              exact ⟨_, rfl, HB4.out, rfl⟩
            · have hgt : y < x := by have := HK.out; omega
              have HK2 := Lib.hid hlt
              have hr : C = 1 := by rw [← HC.out]; exact cmpN_gt (cmp_at A2.out HLE.out.symm HREL.out.symm HY.out HX.out hgt)
              subst hr
              clear hlt hgt
              refine region_flow 9 [[], [], [0, 1], [2], [], [], [4, 5], [6], [3, 7]] [.is (.slice (some ⟨b1, o1, none⟩) n c1), .is (.int .i64 (k : Nat)), .is (.pointer (some ⟨b1, o1 + k, none⟩)), .is (.int .u32 (x : Nat)), .is (.slice (some ⟨b2, o2, none⟩) n c2), .is (.int .i64 (k : Nat)), .is (.pointer (some ⟨b2, o2 + k, none⟩)), .is (.int .u32 (y : Nat)), .is (.bool false)] (by kernel_rfl) (by kernel_rfl) rfl (by simp only [Steady]) ?_
              simp only [List.take_succ_cons, List.take_zero, List.drop_succ_cons, List.drop_zero]
              refine fV (by rfl) (by intro w1 hw1 hk1; go_simp) ?_
              simp only [Act.put, sA, sB, sC]
              refine fV (by rfl) (by intro w1 hw1 hk1; go_simp) ?_
              simp only [Act.put, sA, sB, sC]
              refine flow_is (by intro w1 hw1 hk1; refine want (by rfl) (gives_val ?_); go_simp; (first | done | (intro h; omega))) ?_
              simp only [Act.put, sA, sB, sC]
              refine flow_is (by intro w1 hw1 hk1; have q := (HB3.out.trans hw1).cell Q1.out; refine want (by rfl) (gives_val ?_); go_simp) ?_
              simp only [Act.put, sA, sB, sC]
              refine fV (by rfl) (by intro w1 hw1 hk1; go_simp) ?_
              simp only [Act.put, sA, sB, sC]
              refine fV (by rfl) (by intro w1 hw1 hk1; go_simp) ?_
              simp only [Act.put, sA, sB, sC]
              refine flow_is (by intro w1 hw1 hk1; refine want (by rfl) (gives_val ?_); go_simp; (first | done | (intro h; omega))) ?_
              simp only [Act.put, sA, sB, sC]
              refine flow_is (by intro w1 hw1 hk1; have q := (HB3.out.trans hw1).cell Q2.out; refine want (by rfl) (gives_val ?_); go_simp) ?_
              simp only [Act.put, sA, sB, sC]
              refine flow_is (by intro w1 hw1 hk1; refine want (by rfl) (gives_val ?_); go_simp; (first | done | (have := HK2.out; omega) | (simp; have := HK2.out; omega))) ?_
              simp only [Act.put, sA, sB, sC]
              intro w1 hw1 hk1
              have HB4 := Lib.hid (HB.out.trans (HB3.out.trans hw1))
              clear hw1
              go_wp2
              go_ret
              exact ⟨_, rfl, HB4.out, rfl⟩
theorem mk_rcmp1 {w : World} {a b : Value} {m n : Nat} (ha : NR w a m) (hb : NR w b n) (hm : (limB B32 m).length < 1000000000) (hn : (limB B32 n).length < 1000000000) : Calls Tryz.prog 167 #[a, b] w (Makes w fun v _ => v = .int .i64 (cmpN m n)) := by
  obtain ⟨p1, c1, rfl, r1, q1⟩ := ha
  obtain ⟨p2, c2, rfl, r2, q2⟩ := hb
  have h := rcmp_any p1 p2 c1 c2 _ _ w r1 r2 (trim_lim b32_two _) (trim_lim b32_two _) hm hn
  rwa [val_lim b32_two, val_lim b32_two] at h
theorem made_own32 (w : World) (N : Nat) (hN : N ≤ maxLen) : O32 (w.alloc (.cells (madeCells #[.int .u32 0] (N * 1)) 135)) w.heap.size (.slice (some ⟨w.heap.size, 0, none⟩) N N) (List.replicate N 0) := by
  refine ⟨⟨by simp, .inr ⟨w.heap.size, N, _, by simp, Nat.le_refl _, heap_alloc_new w _, by simp, hN, by simp [size_madeCells], ?_⟩⟩, fun x hx => by rw [List.mem_replicate] at hx; rw [hx.2]; decide⟩
  rw [toList_madeCells_one]
  simp [lmV]
theorem run_made32 (N : Nat) (hN : N ≤ 1000000000000) (w : World) : (Instr.makeSlice 33 (.int .i64 (N : Int)) (.int .i64 (N : Int))).run Tryz.prog w =
    .ok (.slice (some ⟨w.heap.size, 0, none⟩) N N) (w.alloc (.cells (madeCells #[.int .u32 0] (N * 1)) 135)) := by
  obtain ⟨i0, hi, hz0, hz1, hz2⟩ := info_parts infoU32
  have h := run_make (P := Tryz.prog) w 33 135 i0 (.int .u32 0) Tryz.underlying33 hi hz0 .i64 .i64 N N (by omega) (by omega) (by rw [hz2]; omega) (by omega)
  rw [hz1] at h
  simp only [Int.toNat_natCast] at h
  exact h
theorem own_cell32 {w : World} {base g n c j x : Nat} {l : List Nat} (h : O32 w base (.slice (some ⟨g, 0, none⟩) n c) l) (hj : l[j]? = some x) : w.cell? ⟨g, j, none⟩ = some (.int .u32 (x : Int)) ∧ w.frozen? ⟨g, j, none⟩ = false := by
  obtain ⟨b, o, c', he, _, hq, _⟩ := h.row.at hj
  simp only [Value.slice.injEq, Option.some.injEq, Addr.mk.injEq, and_true] at he
  obtain ⟨⟨rfl, rfl⟩, rfl, rfl⟩ := he
  rw [Nat.zero_add] at hq
  exact ⟨hq, World.ownsRow.frozenAt h.1 j⟩
theorem own_store32 {w w0 : World} {base g n c : Nat} {l : List Nat} (h : O32 w base (.slice (some ⟨g, 0, none⟩) n c) l) (hb : Bel w0 w) (hbase : w0.heap.size ≤ base) (j v : Nat) (hv : v < B32) :
    O32 (w.setCell ⟨g, j, none⟩ (.int .u32 (v : Int))) base (.slice (some ⟨g, 0, none⟩) n c) (l.set j v) ∧ Bel w0 (w.setCell ⟨g, j, none⟩ (.int .u32 (v : Int))) := by
  have hn : n = l.length := by
    rcases h.1.2 with ⟨h1, _⟩ | ⟨g', cap', cur, h1, _⟩
    · cases h1
    · simp only [Value.slice.injEq] at h1; exact h1.2.1
  subst hn
  obtain ⟨h1, h2⟩ := World.ownsRow.stored h.1 j (.int .u32 (v : Int))
  refine ⟨⟨?_, all_set h.2 hv⟩, hb.set (Nat.le_trans hbase (h.1.lt g rfl).1) _⟩
  rw [List.length_set, List.map_set]
  exact h1
theorem short_step {b r x Q T : Nat} (_ : 0 < b) (hT : T = b * Q + r) : x + B32 * T = b * ((r * B32 + x) / b + B32 * Q) + (r * B32 + x) % b := by
  have h := Nat.div_add_mod (r * B32 + x) b
  rw [hT]
  generalize (r * B32 + x) / b = D at h ⊢
  generalize (r * B32 + x) % b = M at h ⊢
  rw [Nat.mul_add, Nat.mul_add, Nat.add_right_comm, h, Nat.mul_comm r]
  have e : B32 * (b * Q) = b * (B32 * Q) := Nat.mul_left_comm ..
  omega
theorem short_digit {b r x : Nat} (hr : r < b) (hb : b < B32) (hx : x < B32) : (r * B32 + x) / b < B32 ∧ r * B32 + x < B64 := by
  have h1 : (r + 1) * B32 ≤ b * B32 := Nat.mul_le_mul_right _ hr
  rw [Nat.add_mul, Nat.one_mul] at h1
  refine ⟨Nat.div_lt_of_lt_mul (by omega), ?_⟩
  have h2 : b * B32 < B32 * B32 := Nat.mul_lt_mul_of_pos_right hb (by decide)
  have e : B64 = B32 * B32 := by decide
  omega
theorem val_set_drop {o : List Nat} {k D : Nat} (hk : k < o.length) : valB B32 ((o.set k D).drop k) = D + B32 * valB B32 (o.drop (k + 1)) := by
  rw [List.drop_eq_getElem_cons (by simpa using hk), List.getElem_set_self, List.drop_set_of_lt (by omega)]
  rfl
theorem val_drop_cons {l : List Nat} {k x : Nat} (hx : l[k]? = some x) : valB B32 (l.drop k) = x + B32 * valB B32 (l.drop (k + 1)) := by
  obtain ⟨h1, e1⟩ := List.getElem?_eq_some_iff.1 hx
  rw [List.drop_eq_getElem_cons h1, e1]
  rfl
theorem lt64 {n : Nat} (h : n < 18446744073709551616) : n < B64 := h
theorem noInt_two32 (p p' : Option Addr) (n c n' c' : Nat) : NoInt .u32 #[.slice p n c, .slice p' n' c'] := by
  intro v hv x
  simp at hv
  rcases hv with rfl | rfl <;> simp
theorem short_or {r x : Nat} (hr : r < 4294967296) (hx : x < 4294967296) : bits .or .u64 ((r : Int) * 4294967296) (x : Int) = ((r * B32 + x : Nat) : Int) := by
  have h1 : r * 2 ^ 32 < B64 := by have : B64 = 18446744073709551616 := rfl
                                   omega
  have h2 : x < B64 := by have : B64 = 18446744073709551616 := rfl
                          omega
  have h := u64_or_nat (r * 2 ^ 32) x h1 h2
  rw [word_over (by omega)] at h
  rw [show ((r : Int) * 4294967296) = ((r * 2 ^ 32 : Nat) : Int) by omega, h]
  rfl
set_option maxRecDepth 100000 in
set_option maxHeartbeats 2000000 in
theorem rshort_any {w : World} {a : Value} {N b : Nat} (ha : NR w a N) (hl : (limB B32 N).length < 1000000000) (hb0 : 0 < b) (hb : b < B32) :
    Calls Tryz.prog 168 #[a, .int .u32 (b : Int)] w (Makes w fun v w' => ∃ u t, v = .agg #[u, t] ∧ NR w' u (N / b) ∧ NR w' t (N % b)) := by
  obtain ⟨p, c, rfl, h, -⟩ := ha
  have HV := Lib.hid (val_lim b32_two N)
  have hbB : b < 4294967296 := hb
  have hbi : ((b : Int) == 0) = false := beq_false_of_ne (by omega)
  obtain ⟨l, hl'⟩ : ∃ l, limB B32 N = l := ⟨_, rfl⟩
  rw [hl'] at h hl HV ⊢
  obtain ⟨n, hn⟩ : ∃ n, l.length = n := ⟨_, rfl⟩
  rw [hn] at h hl ⊢
  have H := Lib.hid h
  have HN := Lib.hid hn
  clear h hl' hn
  go_enter Tryz.func168, Tryz.ntmps168
  go_upto_region 1 with fail
  obtain ⟨hXR, hbw⟩ := boxes1 w (.cells #[.slice none 0 0, .slice none 0 0] 157)
  obtain ⟨W, hW⟩ : ∃ W, w.alloc (.cells #[.slice none 0 0, .slice none 0 0] 157) = W := ⟨_, rfl⟩
  rw [hW] at hXR hbw ⊢
  obtain ⟨XR, eXR⟩ : ∃ X, w.heap.size = X := ⟨_, rfl⟩
  rw [eXR]
  rw [eXR] at hXR
  have HXR := Lib.hid hXR
  have HBW := Lib.hid hbw
  have HGEXR : Hid (w.heap.size ≤ XR) := by unfold Hid; omega
  clear hW hbw hXR eXR
  have HMK := Lib.hid (fun wx => run_made32 n (by omega) wx)
  have hmk := HMK.out
  obtain ⟨Z, hZ⟩ : ∃ Z, madeCells #[.int .u32 0] (n * 1) = Z := ⟨_, rfl⟩
  have HO0 := Lib.hid (made_own32 W n (by unfold maxLen; omega))
  rw [hZ] at hmk HO0
  obtain ⟨G, hG⟩ : ∃ G, W.heap.size = G := ⟨_, rfl⟩
  have HG := Lib.hid hG
  rw [hG] at HO0
  clear HMK hZ
  go_wp2
  go_loopg [6, 7] n (fun gf s6 s7 wx => ∃ (k r : Nat) (o : List Nat), s7 = .int .i64 ((k : Int) - 1) ∧ s6 = .int .u64 (r : Nat) ∧ r < b ∧ k ≤ n ∧ k ≤ gf ∧ o.length = n ∧ O32 wx G (.slice (some ⟨G, 0, none⟩) n n) o ∧ valB B32 (l.drop k) = b * valB B32 (o.drop k) + r ∧ Bel W wx)
  case atStart => exact ⟨n, 0, List.replicate n 0, by go_num, rfl, hb0, Nat.le_refl _, Nat.le_refl _, by simp, HO0.out, by rw [List.drop_of_length_le (by rw [HN.out]; exact Nat.le_refl _), List.drop_of_length_le (by simp)]; simp [valB], (Bel.refl W).alloc _⟩
  case round =>
    obtain ⟨k, r, o, rfl, rfl, hr, hk, hkg, ho, hown, hval, hbl⟩ := hrel
    have HOWN := Lib.hid hown
    have HVAL := Lib.hid hval
    have HB := Lib.hid hbl
    have HO := Lib.hid ho
    clear hown hval hbl ho
    cases k with
    | zero =>
      have hv : N = b * valB B32 o + r := by rw [← HV.out]; exact HVAL.out
      have e1 : N / b = valB B32 o := by rw [hv, Nat.mul_add_div hb0, Nat.div_eq_of_lt hr, Nat.add_zero]
      have e2 : N % b = r := by rw [hv, Nat.mul_add_mod, Nat.mod_eq_of_lt hr]
      have htr : limB B32 (valB B32 o) = trimL o := lim_val b32_two HOWN.out.2
      have hown' := HOWN.out
      rw [← HO.out] at hown'
      have hown2 := hown'.take (trim_len o)
      rw [← trim_prefix, ← htr] at hown2
      have HT : Hid (Calls Tryz.prog 118 #[.slice (some ⟨G, 0, none⟩) n n] wr fun e w' => e = .returned (.slice (some ⟨G, 0, none⟩) (limB B32 (valB B32 o)).length n) ∧ w' = wr) := by
        have := rtrim_any (some ⟨G, 0, none⟩) n o wr (by have := HOWN.out.row; rw [← HO.out] at this ⊢; exact this) (by have := HO.out; omega)
        rw [HO.out, ← htr] at this
        exact this
      have HNQ : Hid (NR wr (.slice (some ⟨G, 0, none⟩) (limB B32 (valB B32 o)).length n) (valB B32 o)) := by
        rw [HO.out] at hown2
        exact ⟨_, _, rfl, hown2.row, .inr ⟨_, _, rfl⟩⟩
      have HOF := Lib.hid (mk_r1of r (lt64 (by omega)) wr)
      obtain ⟨Q, hQ⟩ : ∃ Q, valB B32 o = Q := ⟨_, rfl⟩
      rw [hQ] at HT HNQ e1
      have HE1 := Lib.hid e1
      have HE2 := Lib.hid e2
      obtain ⟨K, hK⟩ : ∃ K, (limB B32 Q).length = K := ⟨_, rfl⟩
      rw [hK] at HT HNQ
      clear hv e1 e2 htr hown' hown2 hQ hK HVAL HV hmk HO0 hG
      go_wp2_with (first
        | (go_at_call 118; (with_reducible refine HT.out.mono ?_); rintro e w4 ⟨rfl, hw4⟩; obtain rfl := hw4.symm; clear HT)
        | (go_at_call 74; (with_reducible refine HOF.out.mono ?_); rintro e w5 ⟨v5, rfl, hb5, hv5⟩; obtain ⟨p5, c5, k5, rfl, -⟩ := hv5.slice; have HB5 := Lib.hid (HB.out.trans hb5); have HNQ5 := Lib.hid (HNQ.out.bel hb5); have HNR5 := Lib.hid hv5; have hhXR := (HB5.out).heap HXR.out; have HHXR := Lib.hid hhXR; have dXR0 : w5.cell? ⟨XR, 0, none⟩ = some (.slice none 0 0) := (heap_cell hhXR 0).trans rfl; have fXR0 : w5.frozen? ⟨XR, 0, none⟩ = false := heap_frozen hhXR 0; have dXR1 : w5.cell? ⟨XR, 1, none⟩ = some (.slice none 0 0) := (heap_cell hhXR 1).trans rfl; have fXR1 : w5.frozen? ⟨XR, 1, none⟩ = false := heap_frozen hhXR 1; clear hhXR; clear hb5 hv5))
      obtain ⟨kb, kp, kh⟩ := finAll (vs := [.slice (some ⟨G, 0, none⟩) K n, .slice p5 k5 c5]) (HBW.out.trans HB5.out) HHXR.out rfl HGEXR.out (Φ := fun W2 => ∃ u t, Value.agg #[.slice (some ⟨G, 0, none⟩) K n, .slice p5 k5 c5] = .agg #[u, t] ∧ NR W2 u (N / b) ∧ NR W2 t (N % b)) (fun W2 ho => ⟨_, _, rfl, by rw [HE1.out]; exact HNQ5.out.only ho HHXR.out (noInt_two32 _ _ _ _ _ _), by rw [HE2.out]; exact HNR5.out.only ho HHXR.out (noInt_two32 _ _ _ _ _ _)⟩)
      have kk0 : (setAll w5 XR 0 [.slice (some ⟨G, 0, none⟩) K n, .slice p5 k5 c5]).cell? ⟨XR, 0, none⟩ = some (.slice (some ⟨G, 0, none⟩) K n) := (heap_cell kh 0).trans rfl
      have kk1 : (setAll w5 XR 0 [.slice (some ⟨G, 0, none⟩) K n, .slice p5 k5 c5]).cell? ⟨XR, 1, none⟩ = some (.slice p5 k5 c5) := (heap_cell kh 1).trans rfl
      simp only [setAll] at kb kp kk0 kk1
      exact bodyPost_ret (v := .agg #[.slice (some ⟨G, 0, none⟩) K n, .slice p5 k5 c5]) (by simp [results, Tryz.results168, go_sem, kk0, kk1]) rfl ⟨_, rfl, kb, kp⟩
    | succ k =>
      obtain ⟨gk', rfl⟩ : ∃ g, gk = g + 1 := ⟨gk - 1, by omega⟩
      obtain ⟨x, hx⟩ : ∃ x, l[k]? = some x := ⟨_, List.getElem?_eq_getElem (by have := HN.out; omega)⟩
      have hR := H.out.bel (HBW.out.trans HB.out)
      rw [← HN.out] at hR
      obtain ⟨b1, o1, e1, he1, hc1, q1, hxb⟩ := hR.at hx
      rw [HN.out] at he1 hc1
      simp only [Value.slice.injEq] at he1
      obtain ⟨rfl, _, rfl⟩ := he1
      have hxB : x < 4294967296 := hxb
      have hrB : r < 4294967296 := by omega
      have hor := short_or hrB hxB
      have HSTEP := Lib.hid (short_step (x := x) hb0 HVAL.out)
      obtain ⟨hd1, hd2⟩ := short_digit hr hb hxb
      have HX := Lib.hid hx
      have hmod : (r * B32 + x) % b < b := Nat.mod_lt _ hb0
      obtain ⟨V, hV⟩ : ∃ V, r * B32 + x = V := ⟨_, rfl⟩
      rw [hV] at hor HSTEP hd1 hd2 hmod
      obtain ⟨D, hD⟩ : ∃ D, V / b = D := ⟨_, rfl⟩
      obtain ⟨M, hM⟩ : ∃ M, V % b = M := ⟨_, rfl⟩
      have hDi : (V : Int) / (b : Int) = (D : Int) := by rw [← hD]; rfl
      have hMi : (V : Int) % (b : Int) = (M : Int) := by rw [← hM]; rfl
      rw [hD] at HSTEP hd1
      rw [hM] at HSTEP hmod
      have hVB : V < 18446744073709551616 := hd2
      have hDB : D < 4294967296 := hd1
      have hwD : IntKind.u32.wrap (D : Int) = (D : Int) := by rw [IntKind.wrap_u32]; omega
      obtain ⟨y, hy⟩ : ∃ y, o[k]? = some y := ⟨_, List.getElem?_eq_getElem (by have := HO.out; omega)⟩
      obtain ⟨cy, fy⟩ := own_cell32 HOWN.out hy
      have hstr := fun v hv => own_store32 HOWN.out HB.out (by rw [HG.out]; exact Nat.le_refl _) k v hv
      have HSTR := Lib.hid (hstr D hd1)
      have ek : ((k + 1 : Nat) : Int) - 1 = (k : Int) := by omega
      have hkn : k < n := by omega
      rw [ek]
      clear hx hR hxb hV hD hM hstr hy ek hd1 hd2
      go_wp2
      go_roundg gk'
      case measure => omega
      case rel => exact ⟨k, M, o.set k D, by go_num, by rw [hMi], hmod, by omega, by omega, by rw [List.length_set, HO.out], HSTR.out.1, by rw [val_drop_cons HX.out, val_set_drop (by have := HO.out; omega), HSTEP.out], HSTR.out.2⟩
theorem nr_one {w : World} {v : Value} {n : Nat} (h : NR w v n) (h0 : 0 < n) (hn : n < B32) : ∃ b o c, v = .slice (some ⟨b, o, none⟩) 1 c ∧ 1 ≤ c ∧ w.cell? ⟨b, o, none⟩ = some (.int .u32 (n : Int)) := by
  obtain ⟨p, c, rfl, hr, -⟩ := h
  rw [lim_small b32_two h0 hn] at hr ⊢
  obtain ⟨b, o, c', he, hc, hq, _⟩ := hr.at (j := 0) (x := n) rfl
  simp only [Value.slice.injEq] at he
  obtain ⟨rfl, _, rfl⟩ := he
  exact ⟨b, o, c, rfl, hc, by rw [Nat.add_zero] at hq; exact hq⟩
set_option maxRecDepth 100000 in
set_option maxHeartbeats 2000000 in
theorem rdm_one {w : World} {a b : Value} {m n : Nat} (ha : NR w a m) (hb : NR w b n) (hm : (limB B32 m).length < 1000000000) (h0 : 0 < n) (hn : n < B32) :
    Calls Tryz.prog 120 #[a, b] w (Makes w fun v w' => ∃ u t, v = .agg #[u, t] ∧ NR w' u (m / n) ∧ NR w' t (m % n)) := by
  have hnl : (limB B32 n).length < 1000000000 := by rw [lim_small b32_two h0 hn]; simp
  have HC := Lib.hid (fun X (hX : Bel w X) => mk_rcmp1 (ha.bel hX) (hb.bel hX) hm hnl)
  have HS := Lib.hid (fun X (hX : Bel w X) => rshort_any (ha.bel hX) hm h0 hn)
  have HA := Lib.hid ha
  obtain ⟨p1, c1, k1, rfl, -⟩ := ha.slice
  obtain ⟨b2, o2, c2, rfl, hc2, q2⟩ := nr_one hb h0 hn
  have Q2 := Lib.hid q2
  by_cases hlt : m < n
  · rw [cmpN_lt hlt] at HC
    have HE1 := Lib.hid (Nat.div_eq_of_lt hlt)
    have HE2 := Lib.hid (Nat.mod_eq_of_lt hlt)
    clear ha hb hm h0 hn hnl q2 hlt HS
    go_enter Tryz.func120, Tryz.ntmps120
    go_upto_region 1 with fail
    obtain ⟨hXR, hbw⟩ := boxes1 w (.cells #[.slice none 0 0, .slice none 0 0] 157)
    obtain ⟨W, hW⟩ : ∃ W, w.alloc (.cells #[.slice none 0 0, .slice none 0 0] 157) = W := ⟨_, rfl⟩
    rw [hW] at hXR hbw ⊢
    obtain ⟨XR, eXR⟩ : ∃ X, w.heap.size = X := ⟨_, rfl⟩
    rw [eXR]
    rw [eXR] at hXR
    have HXR := Lib.hid hXR
    have HBW := Lib.hid hbw
    have HGEXR : Hid (w.heap.size ≤ XR) := by unfold Hid; omega
    clear hW hbw hXR eXR
    go_wp2_with (go_at_call 167; (with_reducible refine (HC.out _ HBW.out).mono ?_); rintro e w2 ⟨v2, rfl, hb2, rfl⟩; have HB2 := Lib.hid hb2; have hhXR := (hb2).heap HXR.out; have HHXR := Lib.hid hhXR; have dXR0 : w2.cell? ⟨XR, 0, none⟩ = some (.slice none 0 0) := (heap_cell hhXR 0).trans rfl; have fXR0 : w2.frozen? ⟨XR, 0, none⟩ = false := heap_frozen hhXR 0; have dXR1 : w2.cell? ⟨XR, 1, none⟩ = some (.slice none 0 0) := (heap_cell hhXR 1).trans rfl; have fXR1 : w2.frozen? ⟨XR, 1, none⟩ = false := heap_frozen hhXR 1; clear hhXR; clear hb2)
    obtain ⟨kb, kp, kh⟩ := finAll (vs := [.slice none 0 0, .slice p1 k1 c1]) (HBW.out.trans HB2.out) HHXR.out rfl HGEXR.out (Φ := fun W2 => ∃ u t, Value.agg #[.slice none 0 0, .slice p1 k1 c1] = .agg #[u, t] ∧ NR W2 u (m / n) ∧ NR W2 t (m % n)) (fun W2 ho => ⟨_, _, rfl, by rw [HE1.out]; exact nr_nil _, by rw [HE2.out]; exact (HA.out.bel (HBW.out.trans HB2.out)).only ho HHXR.out (noInt_two32 _ _ _ _ _ _)⟩)
    have kk0 : (setAll w2 XR 0 [.slice none 0 0, .slice p1 k1 c1]).cell? ⟨XR, 0, none⟩ = some (.slice none 0 0) := (heap_cell kh 0).trans rfl
    have kk1 : (setAll w2 XR 0 [.slice none 0 0, .slice p1 k1 c1]).cell? ⟨XR, 1, none⟩ = some (.slice p1 k1 c1) := (heap_cell kh 1).trans rfl
    simp only [setAll] at kb kp kk0 kk1
    exact bodyPost_ret (v := .agg #[.slice none 0 0, .slice p1 k1 c1]) (by simp [results, Tryz.results120, go_sem, kk0, kk1]) rfl ⟨_, rfl, kb, kp⟩
  · have hC : ¬ cmpN m n < 0 := by unfold cmpN; rw [if_neg hlt]; split <;> omega
    obtain ⟨C, hCe⟩ : ∃ C, cmpN m n = C := ⟨_, rfl⟩
    rw [hCe] at HC hC
    have hCd : decide (C < 0) = false := decide_eq_false hC
    clear ha hb hm h0 hn hnl q2 hlt HA hCe
    go_enter Tryz.func120, Tryz.ntmps120
    go_upto_region 1 with fail
    obtain ⟨hXR, hbw⟩ := boxes1 w (.cells #[.slice none 0 0, .slice none 0 0] 157)
    obtain ⟨W, hW⟩ : ∃ W, w.alloc (.cells #[.slice none 0 0, .slice none 0 0] 157) = W := ⟨_, rfl⟩
    rw [hW] at hXR hbw ⊢
    obtain ⟨XR, eXR⟩ : ∃ X, w.heap.size = X := ⟨_, rfl⟩
    rw [eXR]
    rw [eXR] at hXR
    have HXR := Lib.hid hXR
    have HBW := Lib.hid hbw
    have HGEXR : Hid (w.heap.size ≤ XR) := by unfold Hid; omega
    clear hW hbw hXR eXR
    have hq := HBW.out.cell Q2.out
    go_wp2_with (first
      | (go_at_call 167; (with_reducible refine (HC.out _ HBW.out).mono ?_); rintro e w2 ⟨v2, rfl, hb2, rfl⟩; have HB2 := Lib.hid hb2; have hq2 := hb2.cell hq; clear hb2)
      | (go_at_call 168; (with_reducible refine (HS.out _ (HBW.out.trans HB2.out)).mono ?_); rintro e w3 ⟨v3, rfl, hb3, u3, t3, rfl, hu3, ht3⟩; obtain ⟨p5, c5, k5, rfl, -⟩ := hu3.slice; obtain ⟨p6, c6, k6, rfl, -⟩ := ht3.slice; have HU := Lib.hid hu3; have HT := Lib.hid ht3; have HB3 := Lib.hid (HB2.out.trans hb3); have hhXR := (HB3.out).heap HXR.out; have HHXR := Lib.hid hhXR; have dXR0 : w3.cell? ⟨XR, 0, none⟩ = some (.slice none 0 0) := (heap_cell hhXR 0).trans rfl; have fXR0 : w3.frozen? ⟨XR, 0, none⟩ = false := heap_frozen hhXR 0; have dXR1 : w3.cell? ⟨XR, 1, none⟩ = some (.slice none 0 0) := (heap_cell hhXR 1).trans rfl; have fXR1 : w3.frozen? ⟨XR, 1, none⟩ = false := heap_frozen hhXR 1; clear hhXR; clear hb3 hu3 ht3))
    obtain ⟨kb, kp, kh⟩ := finAll (vs := [.slice p5 k5 c5, .slice p6 k6 c6]) (HBW.out.trans HB3.out) HHXR.out rfl HGEXR.out (Φ := fun W2 => ∃ u t, Value.agg #[.slice p5 k5 c5, .slice p6 k6 c6] = .agg #[u, t] ∧ NR W2 u (m / n) ∧ NR W2 t (m % n)) (fun W2 ho => ⟨_, _, rfl, HU.out.only ho HHXR.out (noInt_two32 _ _ _ _ _ _), HT.out.only ho HHXR.out (noInt_two32 _ _ _ _ _ _)⟩)
    have kk0 : (setAll w3 XR 0 [.slice p5 k5 c5, .slice p6 k6 c6]).cell? ⟨XR, 0, none⟩ = some (.slice p5 k5 c5) := (heap_cell kh 0).trans rfl
    have kk1 : (setAll w3 XR 0 [.slice p5 k5 c5, .slice p6 k6 c6]).cell? ⟨XR, 1, none⟩ = some (.slice p6 k6 c6) := (heap_cell kh 1).trans rfl
    simp only [setAll] at kb kp kk0 kk1
    exact bodyPost_ret (v := .agg #[.slice p5 k5 c5, .slice p6 k6 c6]) (by simp [results, Tryz.results120, go_sem, kk0, kk1]) rfl ⟨_, rfl, kb, kp⟩
theorem run_fieldR (u t : Value) (w : World) : (Instr.field 157 (.agg #[u, t]) 1).run Tryz.prog w = .ok t w := by kernel_rfl
theorem run_fieldQ (u t : Value) (w : World) : (Instr.field 157 (.agg #[u, t]) 0).run Tryz.prog w = .ok u w := by kernel_rfl
set_option maxRecDepth 100000 in
set_option maxHeartbeats 2000000 in
theorem rgcd_small {w : World} {a b : Value} {m n : Nat} (ha : NR w a m) (hb : NR w b n) (hm : (limB B32 m).length < 1000000000) (hn : n < B32) :
    Calls Tryz.prog 119 #[a, b] w (Makes w fun v w' => NR w' v (Nat.gcd m n)) := by
  have HA := Lib.hid ha
  have HB0 := Lib.hid hb
  obtain ⟨g, hg⟩ : ∃ g, Nat.gcd m n = g := ⟨_, rfl⟩
  have HG := Lib.hid hg
  rw [hg]
  obtain ⟨p1, c1, k1, rfl, -⟩ := ha.slice
  obtain ⟨p2, c2, k2, rfl, -⟩ := hb.slice
  clear ha hb hg
  go_enter Tryz.func119, Tryz.ntmps119
  go_wp2
  go_loopg [0, 1] (n + 1) (fun gf s0 s1 wx => ∃ (m' n' : Nat), NR wx s0 m' ∧ NR wx s1 n' ∧ Nat.gcd m' n' = g ∧ n' < B32 ∧ n' < gf ∧ (limB B32 m').length < 1000000000 ∧ Bel w wx)
  case atStart => exact ⟨m, n, HA.out, HB0.out, HG.out, hn, by omega, hm, Bel.refl w⟩
  case round =>
    obtain ⟨m', n', h0, h1, hgc, hnb, hng, hml, hbw⟩ := hrel
    obtain ⟨q1, d1, j1, rfl, -⟩ := h0.slice
    obtain ⟨q2, d2, j2, rfl, hj2⟩ := h1.slice
    have HN0 := Lib.hid h0
    have HN1 := Lib.hid h1
    have HGC := Lib.hid hgc
    have HBW := Lib.hid hbw
    by_cases hz : n' = 0
    · have hj0 : j2 = 0 := hj2.2 hz
      subst hj0
      have HZ := Lib.hid hz
      clear h0 h1 hgc hbw hj2 hz
      go_wp2
      go_ret
      refine ⟨_, rfl, HBW.out, ?_⟩
      have h := HN0.out
      rw [← HGC.out, HZ.out, Nat.gcd_zero_right]
      exact h
    · obtain ⟨gk', rfl⟩ : ∃ g, gk = g + 1 := ⟨gk - 1, by omega⟩
      have hjp : 0 < j2 := Nat.pos_of_ne_zero fun h => hz (hj2.1 h)
      have hfr := run_fieldR
      have HD := Lib.hid (rdm_one h0 h1 hml (Nat.pos_of_ne_zero hz) hnb)
      have hlt : m' % n' < n' := Nat.mod_lt _ (Nat.pos_of_ne_zero hz)
      have hl2 : (limB B32 n').length < 1000000000 := by rw [lim_small b32_two (Nat.pos_of_ne_zero hz) hnb]; simp
      have HG2 : Hid (Nat.gcd n' (m' % n') = g) := by unfold Hid; rw [← HGC.out, Nat.gcd_comm, ← Nat.gcd_rec, Nat.gcd_comm]
      clear h0 h1 hgc hbw hj2 hz
      go_wp2_with (go_at_call 120; (with_reducible refine HD.out.mono ?_); rintro e w3 ⟨v3, rfl, hb3, u3, t3, rfl, hu3, ht3⟩; obtain ⟨p5, c5, k5, rfl, -⟩ := hu3.slice; obtain ⟨p6, c6, k6, rfl, -⟩ := ht3.slice; have HT := Lib.hid ht3; have HB3 := Lib.hid hb3; clear hb3 hu3 ht3)
      go_roundg gk'
      case measure => omega
      case rel => exact ⟨n', m' % n', HN1.out.bel HB3.out, HT.out, HG2.out, by omega, by omega, hl2, HBW.out.trans HB3.out⟩
end Go.Proofs.YtafmfnpjhhaikaaGreatDoor
