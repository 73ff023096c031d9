/-
  gessoref03 in contracts: sums, products, quotients, which is greater.
-/
import Derived.Test.YtafmfnpjhhaikaaGreatDoorZaz
import Derived.Test.YtafmfnpjhhaikaaGreatDoorZah
import Derived.Laws.AppendOwnNone
import Derived.Test.YtafmfnpjhhaikaaGreatDoorZau
import Derived.Test.YtafmfnpjhhaikaaGreatDoorZao
namespace Go.Proofs.YtafmfnpjhhaikaaGreatDoor
open Go.RowKit Go.Shelf
theorem rq_conv {C : Ctx} {w : World} {q q' : Rat} {k k' : Nat} {v : Value} (h : T.rel C w (.one [.rq q k]) v) (he : q = q') (hs : Sz k' q') : T.rel C w (.one [.rq q' k']) v := by
  subst he
  obtain ⟨cs, ⟨c1, c2, rfl, ⟨a, b, c, rfl, h1, -⟩, h3⟩, rfl⟩ := h
  exact ⟨_, ⟨_, _, rfl, ⟨a, b, c, rfl, h1, hs⟩, h3⟩, rfl⟩
theorem sgn_pos (n : Nat) : sgnI false n = (n : Int) := rfl
theorem blt_of {a : Nat} (h : a + 1 ≤ 100000000) : a.blt LimK = true := Nat.ble_eq.mpr h
theorem max_same (a : Nat) : Nat.max a a = a := Nat.max_self a
def lim4 (i j : Nat) : Bool := ((i + j) * 4 + 4).blt LimK
theorem lim4_of {i j : Nat} (h : lim4 i j = true) : (i + j) * 4 + 5 ≤ 100000000 := Nat.ble_eq.mp h
def cQadd (q : Rat) (i : Nat) (r : Rat) (j : Nat) : Out T := .chk (lim4 i j) (.leaf (.one [.rq (q + r) (i + j + 1)]))
def cQsub (q : Rat) (i : Nat) (r : Rat) (j : Nat) : Out T := .chk (lim4 i j) (.leaf (.one [.rq (q - r) (i + j + 1)]))
def cQmul (q : Rat) (i : Nat) (r : Rat) (j : Nat) : Out T := .chk (lim4 i j) (.leaf (.one [.rq (q * r) (i + j)]))
def cQdiv (q : Rat) (i : Nat) (r : Rat) (j : Nat) : Out T := .chk (lim4 i j) (.need (r ≠ 0) (.leaf (.one [.rq (q / r) (i + j)])))
def cQcmp (q : Rat) (i : Nat) (r : Rat) (j : Nat) : Out T := .chk (lim4 i j) (.leaf (.one [.sym (.int .i64 (cmpR q r))]))
theorem r3add_tree (q r : Rat) (i j : Nat) : exFn (envOf consS2) Tryz.f81 [[.rq q i], [.rq r j]] = .chk ((i + j).blt LimK) (.chk ((j + i).blt LimK) (.chk ((i + j + (j + i)).blt LimK) (.chk ((i + j).blt LimK) (.chk (((i + j).max (j + i) + 1 + (i + j)).blt LimK) (.need (q.den * r.den ≠ 0)
    (.leaf (.one [.rq (mkRat (sgnI (decide (sgnI (decide (q.num < 0)) q.num.natAbs * sgnI false r.den < 0)) (sgnI (decide (q.num < 0)) q.num.natAbs * sgnI false r.den).natAbs + sgnI (decide (sgnI (decide (r.num < 0)) r.num.natAbs * sgnI false q.den < 0)) (sgnI (decide (r.num < 0)) r.num.natAbs * sgnI false q.den).natAbs) (q.den * r.den)) (((i + j).max (j + i) + 1).max (i + j))]))))))) := by kernel_rfl
theorem ok_r3add : OkCon Tryz.prog 81 (conQ2 cQadd) := q2_ok (fun vs w => Go.MuLone.run_callFunc_enter Tryz.func81 rfl rfl vs w) fun q i r j t h C w vs hlt ha hq hr => by
  obtain ⟨h1, rfl⟩ := h
  have h1 := lim4_of h1
  have hm : (i + j).max (j + i) = i + j := by rw [Nat.add_comm j i]; exact max_same _
  refine (fn_tree (envOf_ok consS2_ok) Tryz.func81 (r3add_tree q r i j) (t := _) ⟨blt_of (by omega), blt_of (by omega), blt_of (by omega), blt_of (by omega), by rw [hm]; exact blt_of (by omega), Nat.mul_ne_zero q.den_nz r.den_nz, rfl⟩ hlt ha).mono fun _ _ h => h.imp fun _ h => ?_
  refine rq_conv h ?_ (hq.add hr)
  simp only [sgn_of, sgn_pos]
  rw [rat_add]
theorem r3mul_tree (q r : Rat) (i j : Nat) : exFn (envOf consS2) Tryz.f84 [[.rq q i], [.rq r j]] = .chk ((i + j).blt LimK) (.chk ((i + j).blt LimK) (.chk ((i + j + (i + j)).blt LimK) (.need (q.den * r.den ≠ 0)
    (.leaf (.one [.rq (mkRat (sgnI (decide (q.num < 0)) q.num.natAbs * sgnI (decide (r.num < 0)) r.num.natAbs) (q.den * r.den)) ((i + j).max (i + j))]))))) := by kernel_rfl
theorem ok_r3mul : OkCon Tryz.prog 84 (conQ2 cQmul) := q2_ok (fun vs w => Go.MuLone.run_callFunc_enter Tryz.func84 rfl rfl vs w) fun q i r j t h C w vs hlt ha hq hr => by
  obtain ⟨h1, rfl⟩ := h
  have h1 := lim4_of h1
  refine (fn_tree (envOf_ok consS2_ok) Tryz.func84 (r3mul_tree q r i j) (t := _) ⟨blt_of (by omega), blt_of (by omega), blt_of (by omega), Nat.mul_ne_zero q.den_nz r.den_nz, rfl⟩ hlt ha).mono fun _ _ h => h.imp fun _ h => ?_
  refine rq_conv h ?_ (hq.mul hr)
  simp only [sgn_of]
  rw [rat_mul]
theorem r3div_tree (q r : Rat) (i j : Nat) : exFn (envOf consS2) Tryz.f104 [[.rq q i], [.rq r j]] = .chk ((i + j).blt LimK) (.br (decide (cmpR r 0 < 0))
    (.chk ((i + j).blt LimK) (.chk ((i + j + (i + j)).blt LimK) (.need (q.den * r.num.natAbs ≠ 0) (.leaf (.one [.rq (mkRat (-sgnI (decide (sgnI (decide (q.num < 0)) q.num.natAbs * sgnI false r.den < 0)) (sgnI (decide (q.num < 0)) q.num.natAbs * sgnI false r.den).natAbs) (q.den * r.num.natAbs)) ((i + j).max (i + j))])))))
    (.chk ((i + j).blt LimK) (.chk ((i + j + (i + j)).blt LimK) (.need (q.den * r.num.natAbs ≠ 0) (.leaf (.one [.rq (mkRat (sgnI (decide (q.num < 0)) q.num.natAbs * sgnI false r.den) (q.den * r.num.natAbs)) ((i + j).max (i + j))])))))) := by kernel_rfl
theorem cmpR_num (r : Rat) : cmpR r 0 < 0 ↔ r.num < 0 := by
  rw [← sgn_cmp]
  unfold sgnN
  split
  · simp_all
  · split <;> simp_all
theorem div_form (q r : Rat) : q / r = mkRat (if r.num < 0 then -(q.num * r.den) else q.num * r.den) (q.den * r.num.natAbs) := by
  rw [rat_div]
  have hd : (0 : Int) < q.den := by have := q.den_nz; omega
  have h1 : r.num * (q.den : Int) < 0 ↔ r.num < 0 := ⟨fun h => Int.lt_of_not_ge fun h' => absurd (Int.mul_nonneg h' (Int.le_of_lt hd)) (by omega), fun h => Int.mul_neg_of_neg_of_pos h hd⟩
  simp only [h1, Int.natAbs_mul, Int.natAbs_natCast, Nat.mul_comm]
theorem ok_r3div : OkCon Tryz.prog 104 (conQ2 cQdiv) := q2_ok (fun vs w => Go.MuLone.run_callFunc_enter Tryz.func104 rfl rfl vs w) fun q i r j t h C w vs hlt ha hq hr => by
  obtain ⟨h1, hr0, rfl⟩ := h
  have h1 := lim4_of h1
  have hn : r.num ≠ 0 := fun h => hr0 (Rat.num_eq_zero.1 h)
  have hne : q.den * r.num.natAbs ≠ 0 := Nat.mul_ne_zero q.den_nz (by omega)
  by_cases hs : r.num < 0
  · refine (fn_tree (envOf_ok consS2_ok) Tryz.func104 (r3div_tree q r i j) (t := _) ⟨blt_of (by omega), .inl ⟨decide_eq_true ((cmpR_num r).2 hs), blt_of (by omega), blt_of (by omega), hne, rfl⟩⟩ hlt ha).mono fun _ _ h => h.imp fun _ h => ?_
    refine rq_conv h ?_ (hq.div hr hn)
    simp only [sgn_of, sgn_pos]
    rw [div_form, if_pos hs]
  · refine (fn_tree (envOf_ok consS2_ok) Tryz.func104 (r3div_tree q r i j) (t := _) ⟨blt_of (by omega), .inr ⟨decide_eq_false (fun h => hs ((cmpR_num r).1 h)), blt_of (by omega), blt_of (by omega), hne, rfl⟩⟩ hlt ha).mono fun _ _ h => h.imp fun _ h => ?_
    refine rq_conv h ?_ (hq.div hr hn)
    simp only [sgn_of, sgn_pos]
    rw [div_form, if_neg hs]
theorem r3cmp_tree (q r : Rat) (i j : Nat) : exFn (envOf consS2) Tryz.f85 [[.rq q i], [.rq r j]] = .chk ((i + j).blt LimK) (.chk ((j + i).blt LimK) (.chk ((i + j + (j + i)).blt LimK)
    (.leaf (.one [.sym (.int .i64 (sgnN (sgnI (decide (sgnI (decide (q.num < 0)) q.num.natAbs * sgnI false r.den < 0)) (sgnI (decide (q.num < 0)) q.num.natAbs * sgnI false r.den).natAbs - sgnI (decide (sgnI (decide (r.num < 0)) r.num.natAbs * sgnI false q.den < 0)) (sgnI (decide (r.num < 0)) r.num.natAbs * sgnI false q.den).natAbs)))])))) := by kernel_rfl
theorem ok_r3cmp : OkCon Tryz.prog 85 (conQ2 cQcmp) := q2_ok (fun vs w => Go.MuLone.run_callFunc_enter Tryz.func85 rfl rfl vs w) fun q i r j t h C w vs hlt ha hq hr => by
  obtain ⟨h1, rfl⟩ := h
  have h1 := lim4_of h1
  refine (fn_tree (envOf_ok consS2_ok) Tryz.func85 (r3cmp_tree q r i j) (t := _) ⟨blt_of (by omega), blt_of (by omega), blt_of (by omega), rfl⟩ hlt ha).mono fun _ _ h => h.imp fun _ h => ?_
  simp only [sgn_of, sgn_pos] at h
  rw [← cmp_sgn] at h
  exact h
noncomputable def consT0 := (81, conQ2 cQadd) :: (84, conQ2 cQmul) :: (104, conQ2 cQdiv) :: (85, conQ2 cQcmp) :: consS2
theorem consT0_ok : AllCon Tryz.prog consT0 := ⟨ok_r3add, ok_r3mul, ok_r3div, ok_r3cmp, consS2_ok⟩
theorem r3sub_tree (q r : Rat) (i j : Nat) : exFn (envOf consT0) Tryz.f82 [[.rq q i], [.rq r j]] = .chk (lim4 i j) (.leaf (.one [.rq (q + -r) (i + j + 1)])) := by kernel_rfl
theorem ok_r3sub : OkCon Tryz.prog 82 (conQ2 cQsub) := q2_ok (fun vs w => Go.MuLone.run_callFunc_enter Tryz.func82 rfl rfl vs w) fun q i r j t h C w vs hlt ha hq hr => by
  obtain ⟨h1, rfl⟩ := h
  refine (fn_tree (envOf_ok consT0_ok) Tryz.func82 (r3sub_tree q r i j) (t := _) ⟨h1, rfl⟩ hlt ha).mono fun _ _ h => h.imp fun _ h => ?_
  exact rq_conv h (Rat.sub_eq_add_neg _ _).symm (hq.sub hr)
/-! ### What came in -/
def cQin : Con
  | [[.raw (.bool _) (.slice _ n _) (.slice _ m _) q k]] => .need (n ≤ 200 ∧ m ≤ 200) (.leaf (.one [.rq q k]))
  | _ => .fail
theorem r3in_tree (s : Bool) (n m : Nat) : exFn (envOf consR2) Tryz.f16 [[.sym (.bool s), .ni n 200, .ni m 200]] = .br ((((limB B32 m).length : Nat) : Int) == 0) (.chk ((200 + 1).blt LimK) (.need (1 ≠ 0) (.leaf (.one [.rq (mkRat (sgnI s n) 1) (Nat.max 200 1)]))))
    (.chk ((200 + 200).blt LimK) (.need (m ≠ 0) (.leaf (.one [.rq (mkRat (sgnI s n) m) (Nat.max 200 200)])))) := by kernel_rfl
theorem ni_lt {w : World} {p : Option Addr} {n c x : Nat} (h : NI w (.slice p n c) x) (hn : n ≤ 200) : x < B64 ^ 200 := by
  obtain ⟨p', c', l, he, hr, -, rfl, -⟩ := h
  simp only [Value.slice.injEq] at he
  have := val_lt hr.all
  exact Nat.lt_of_lt_of_le this (Nat.pow_le_pow_right b64_pos (by omega))
theorem ok_r3in : OkCon Tryz.prog 16 cQin := ⟨fun vs w => Go.MuLone.run_callFunc_enter Tryz.func16 rfl rfl vs w, fun args t hg C w vs hlt ha => by
  unfold cQin at hg
  split at hg
  · rename_i s p1 n1 c1 p2 n2 c2 q k
    obtain ⟨⟨hn, hm⟩, rfl⟩ := hg
    obtain ⟨a, rfl, ⟨cs, ⟨d1, d2, rfl, ⟨rfl, ⟨s', u, d, n, m, he, h1, h2, hq⟩, hs⟩, h3⟩, rfl⟩⟩ := all1 ha
    simp only [V.rel] at h3
    subst h3
    simp only [Value.agg.injEq, Array.mk.injEq, List.cons.injEq, and_true, Value.bool.injEq] at he
    obtain ⟨rfl, rfl, rfl⟩ := he
    have hh : V.hasAll C w [[.sym (.bool s), .ni n 200, .ni m 200]] [.agg #[.bool s, .slice p1 n1 c1, .slice p2 n2 c2]] :=
      ⟨_, [], rfl, ⟨[_, _, _], ⟨[_], [_, _], rfl, rfl, [_], [_], rfl, ⟨_, rfl, h1, ni_lt h1 hn⟩, [_], [], rfl, ⟨_, rfl, h2, ni_lt h2 hm⟩, rfl⟩, rfl⟩, rfl⟩
    by_cases hm0 : m = 0
    · subst hm0
      refine (fn_tree (envOf_ok consR2_ok) Tryz.func16 (r3in_tree s n 0) (t := _) (.inl ⟨by rw [lim_zero]; rfl, blt_of (by decide), by decide, rfl⟩) hlt hh).mono fun _ _ h => h.imp fun _ h => ?_
      exact rq_conv h (by rw [← hq]; rfl) hs
    · refine (fn_tree (envOf_ok consR2_ok) Tryz.func16 (r3in_tree s n m) (t := _) (.inr ⟨len_ne hm0, blt_of (by decide), hm0, rfl⟩) hlt hh).mono fun _ _ h => h.imp fun _ h => ?_
      exact rq_conv h (by rw [← hq, ratOf, if_neg hm0]) hs
  · exact hg.elim⟩
noncomputable def consT1 := (82, conQ2 cQsub) :: (16, cQin) :: consT0
theorem consT1_ok : AllCon Tryz.prog consT1 := ⟨ok_r3sub, ok_r3in, consT0_ok⟩
theorem take_step {l1 l2 : List Nat} {i x : Nat} (h : l1.take i = l2.take i) (h1 : l1[i]? = some x) (h2 : l2[i]? = some x) : l1.take (i + 1) = l2.take (i + 1) := by
  rw [List.take_add_one, List.take_add_one, h, h1, h2]
set_option maxHeartbeats 4000000 in
set_option maxRecDepth 100000 in
theorem nats_any (p1 p2 : Option Addr) (c1 c2 : Nat) (l1 l2 : List Nat) (w : World) (h1 : R64 w (.slice p1 l1.length c1) l1) (h2 : R64 w (.slice p2 l2.length c2) l2) (hl1 : l1.length < 1000000000) (_ : l2.length < 1000000000) :
    Calls Tryz.prog 125 #[.slice p1 l1.length c1, .slice p2 l2.length c2] w (Makes w fun v _ => v = .bool (decide (l1 = l2))) := by
  have H1 := Lib.hid h1
  have H2 := Lib.hid h2
  clear h1 h2
  by_cases hle : l1.length = l2.length
  · have HLE := Lib.hid hle
    obtain ⟨n, hn⟩ : ∃ n, l1.length = n := ⟨_, rfl⟩
    have hn2 : l2.length = n := by omega
    have HN1 := Lib.hid hn
    have HN2 := Lib.hid hn2
    rw [hn] at hl1
    rw [hn2, hn]
    obtain ⟨R, hR⟩ : ∃ R, decide (l1 = l2) = R := ⟨_, rfl⟩
    have HR := Lib.hid hR
    rw [hR]
    clear hle hn hn2 hR
    go_enter Tryz.func125, Tryz.ntmps125
    go_wp2
    go_loopg [5] n (fun gf s5 wx => ∃ i : Nat, s5 = .int .i64 i ∧ i ≤ n ∧ n ≤ i + gf ∧ l1.take i = l2.take i ∧ Bel w wx)
    case atStart => exact ⟨0, rfl, by omega, by omega, rfl, Bel.refl w⟩
    case round =>
      obtain ⟨i, rfl, hi, hig, hrel, hb⟩ := hrel
      have HREL := Lib.hid hrel
      have HB := Lib.hid hb
      clear hrel hb
      by_cases hlt : i < n
      · obtain ⟨gk', rfl⟩ : ∃ g, gk = g + 1 := ⟨gk - 1, by omega⟩
        obtain ⟨x, hx⟩ : ∃ x, l1[i]? = some x := ⟨_, List.getElem?_eq_getElem (by have := HN1.out; omega)⟩
        obtain ⟨y, hy⟩ : ∃ y, l2[i]? = some y := ⟨_, List.getElem?_eq_getElem (by have := HN2.out; omega)⟩
        obtain ⟨b1, o1, e1, he1, hc1, q1, _⟩ := (H1.out.bel HB.out).at hx
        obtain ⟨b2, o2, e2, he2, hc2, q2, _⟩ := (H2.out.bel HB.out).at hy
        rw [HN1.out] at he1 hc1
        rw [HN2.out] at he2 hc2
        simp only [Value.slice.injEq] at he1 he2
        obtain ⟨rfl, _, rfl⟩ := he1
        obtain ⟨rfl, _, rfl⟩ := he2
        have HX := Lib.hid hx
        have HY := Lib.hid hy
        clear hx hy
        by_cases hxy : x = y
        · subst hxy
          have HST := Lib.hid (take_step HREL.out HX.out HY.out)
          have hne : (!((x : Int) == (x : Int))) = false := by simp
          go_wp2
          go_quiet (fail)
          go_wp2
          go_roundg gk'
          case measure => omega
          case rel => exact ⟨i + 1, by go_num, by omega, by omega, HST.out, HB.out.drewN _⟩
        · have hne : (!((x : Int) == (y : Int))) = true := by simp; omega
          have HF : Hid (R = false) := by
            unfold Hid
            rw [← HR.out]
            refine decide_eq_false fun h => hxy ?_
            have h3 := HX.out
            rw [h, HY.out] at h3
            exact (Option.some.inj h3).symm
          go_wp2
          go_quiet (fail)
          go_wp2
          go_ret
          exact ⟨_, rfl, HB.out.drewN _, by show Value.bool false = Value.bool R; rw [HF.out]⟩
      · obtain rfl : i = n := by omega
        have HT : Hid (R = true) := by
          unfold Hid
          rw [← HR.out]
          refine decide_eq_true ?_
          have h3 := HREL.out
          rwa [List.take_of_length_le (by have := HN1.out; omega), List.take_of_length_le (by have := HN2.out; omega)] at h3
        go_wp2
        go_ret
        exact ⟨_, rfl, HB.out, by show Value.bool true = Value.bool R; rw [HT.out]⟩
  · have hF : decide (l1 = l2) = false := decide_eq_false fun h => hle (by rw [h])
    rw [hF]
    have hne : (!((l1.length : Int) == (l2.length : Int))) = true := by simp; omega
    clear hF
    go_enter Tryz.func125, Tryz.ntmps125
    go_wp2
    go_ret
    exact ⟨_, rfl, Bel.refl w, rfl⟩
def cNats : Con
  | [[.nat n i], [.nat m j]] => .chk ((i + j).blt LimK) (.leaf (.one [.sym (.bool (decide (n = m)))]))
  | _ => .fail
theorem lim_len_k {n k : Nat} (h : n < B64 ^ k) : (limB B64 n).length ≤ k := lim_len b64_two h
theorem ok_nats : OkCon Tryz.prog 125 cNats := ⟨fun vs w => Go.MuLone.run_callFunc_enter Tryz.func125 rfl rfl vs w, fun args t hg C w vs _ ha => by
  unfold cNats at hg
  split at hg
  · rename_i n i m j
    obtain ⟨h0, rfl⟩ := hg
    have h0 : (_ + 1 ≤ 100000000) := Nat.ble_eq.mp h0
    obtain ⟨a, b, rfl, h1, h2⟩ := all2 ha
    obtain ⟨v1, e1, ⟨p1, c1, rfl, r1, -⟩, s1⟩ := u_rel h1 rfl
    obtain ⟨v2, e2, ⟨p2, c2, rfl, r2, -⟩, s2⟩ := u_rel h2 rfl
    simp only [List.cons.injEq, and_true] at e1 e2
    subst e1 e2
    have := lim_len_k s1
    have := lim_len_k s2
    refine (nats_any p1 p2 c1 c2 _ _ w r1 r2 (by omega) (by omega)).mono fun _ _ h => h.imp fun _ h => ?_
    subst h
    refine one_of ?_
    rw [show decide (limB B64 n = limB B64 m) = decide (n = m) from by
      rw [decide_eq_decide]; exact ⟨fun h => lim_inj b64_two h, fun h => by rw [h]⟩]
    rfl
  · exact hg.elim⟩
noncomputable def consU0 := (125, cNats) :: consT1
theorem consU0_ok : AllCon Tryz.prog consU0 := ⟨ok_nats, consT1_ok⟩
noncomputable def consU1 := fnsOf consU0 [(124, Tryz.f124)]
theorem consU1_ok : AllCon Tryz.prog consU1 := fns_ok consU0_ok ⟨⟨Tryz.func124, rfl, rfl⟩, trivial⟩
theorem rats_tree (q r : Rat) (i j : Nat) : exFn (envOf consU1) Tryz.f78 [[.rat q i], [.rat r j]] = .br (decide (q.num < 0) == decide (r.num < 0)) (.chk ((i + j).blt LimK) (.br (decide (q.num.natAbs = r.num.natAbs)) (.chk ((i + j).blt LimK) (.leaf (.one [.sym (.bool (decide (q.den = r.den)))]))) (.leaf (.one [.lit (.bool false)])))) (.leaf (.one [.lit (.bool false)])) := by kernel_rfl
def cRats : Con
  | [[.rat q i], [.rat r j]] => .chk ((i + j).blt LimK) (.leaf (.one [.sym (.bool (decide (q = r)))]))
  | _ => .fail
theorem ok_rats : OkCon Tryz.prog 78 cRats := ⟨fun vs w => Go.MuLone.run_callFunc_enter Tryz.func78 rfl rfl vs w, fun args t hg C w vs hlt ha => by
  unfold cRats at hg
  split at hg
  · rename_i q i r j
    obtain ⟨h0, rfl⟩ := hg
    have key := fun t ht => fn_tree (envOf_ok consU1_ok) Tryz.func78 (rats_tree q r i j) (t := t) ht hlt ha
    by_cases hs : (decide (q.num < 0) == decide (r.num < 0)) = true
    · by_cases hn : q.num.natAbs = r.num.natAbs
      · refine (key _ (.inl ⟨hs, h0, .inl ⟨decide_eq_true hn, h0, rfl⟩⟩)).mono fun _ _ h => h.imp fun _ h => ?_
        rw [show decide (q = r) = decide (q.den = r.den) from by
          rw [decide_eq_decide]
          refine ⟨fun h => by rw [h], fun h => Rat.ext ?_ h⟩
          simp only [beq_iff_eq, decide_eq_decide] at hs
          omega]
        exact h
      · refine (key _ (.inl ⟨hs, h0, .inr ⟨decide_eq_false hn, rfl⟩⟩)).mono fun _ _ h => h.imp fun _ h => ?_
        rw [show decide (q = r) = false from decide_eq_false fun h => hn (by rw [h])]
        exact h
    · have hs' : (decide (q.num < 0) == decide (r.num < 0)) = false := by simpa using hs
      refine (key _ (.inr ⟨hs', rfl⟩)).mono fun _ _ h => h.imp fun _ h => ?_
      rw [show decide (q = r) = false from decide_eq_false fun h => hs (by rw [h]; simp)]
      exact h
  · exact hg.elim⟩
noncomputable def consU2 := (78, cRats) :: consU1
theorem consU2_ok : AllCon Tryz.prog consU2 := ⟨ok_rats, consU1_ok⟩
noncomputable def consU3 := fnsOf consU2 [(29, Tryz.f29), (15, Tryz.f15), (19, Tryz.f19), (22, Tryz.f22), (24, Tryz.f24), (26, Tryz.f26), (31, Tryz.f31), (33, Tryz.f33), (35, Tryz.f35), (18, Tryz.f18)]
theorem consU3_ok : AllCon Tryz.prog consU3 := fns_ok consU2_ok ⟨⟨Tryz.func29, rfl, rfl⟩, ⟨Tryz.func15, rfl, rfl⟩, ⟨Tryz.func19, rfl, rfl⟩, ⟨Tryz.func22, rfl, rfl⟩, ⟨Tryz.func24, rfl, rfl⟩, ⟨Tryz.func26, rfl, rfl⟩, ⟨Tryz.func31, rfl, rfl⟩, ⟨Tryz.func33, rfl, rfl⟩, ⟨Tryz.func35, rfl, rfl⟩, ⟨Tryz.func18, rfl, rfl⟩, trivial⟩
noncomputable def consU4 := fnsOf consU3 [(38, Tryz.f38), (40, Tryz.f40), (28, Tryz.f28), (20, Tryz.f20)]
theorem consU4_ok : AllCon Tryz.prog consU4 := fns_ok consU3_ok ⟨⟨Tryz.func38, rfl, rfl⟩, ⟨Tryz.func40, rfl, rfl⟩, ⟨Tryz.func28, rfl, rfl⟩, ⟨Tryz.func20, rfl, rfl⟩, trivial⟩
noncomputable def consU5 := fnsOf consU4 [(88, Tryz.f88)]
theorem consU5_ok : AllCon Tryz.prog consU5 := fns_ok consU4_ok ⟨⟨Tryz.func88, rfl, rfl⟩, trivial⟩
noncomputable def consU6 := fnsOf consU5 [(42, Tryz.f42)]
theorem consU6_ok : AllCon Tryz.prog consU6 := fns_ok consU5_ok ⟨⟨Tryz.func42, rfl, rfl⟩, trivial⟩
theorem run_append_own_nil {P : Program} {w : World} (base : Nat) (t ty e : TypeId) (i : TypeInfo) (size : Nat) (ht : P.underlying t = some (.slice e)) (hi : P.info? e = some i)
    (v : Value) (n c : Nat) (xs : List Value) (hown : w.ownsRow base e size v n xs) :
    (Builtin.append_ #[t, t] ty #[v, .slice none 0 c]).run P w = .ok v w := by
  rcases hown.2 with ⟨rfl, rfl⟩ | ⟨g, cap, cur, rfl, _, _, hnc, _⟩
  · simp [Builtin.append_, run_underlying ht, sizeOf, typeInfo, hi, Builtin.lenOf, Builtin.firstCells]
  · simp [Builtin.append_, run_underlying ht, sizeOf, typeInfo, hi, Builtin.lenOf, Builtin.firstCells, hnc, storeCells]
theorem wpList_append_own_nil {P : Program} {w : World} {ops : Array Oper} {rest : List Oper} {o : Oper} {a : Act} {Q : Exit → Act → World → Prop} (hgd : o.guard = none) (s x : Operand) (t : TypeId)
    (ho : o.op = .call { callee := .builtin .append, args := #[s, x], argTypes := #[t, t] })
    (base : Nat) (e : TypeId) (i : TypeInfo) (size : Nat) (ht : P.underlying t = some (.slice e)) (hi : P.info? e = some i)
    (v : Value) (n c : Nat) (xs : List Value) (hs : a.eval s = v) (hown : w.ownsRow base e size v n xs) (hx : a.eval x = .slice none 0 c)
    (h : wpList P ops Q rest (a.put o.dst v) w) : wpList P ops Q (o :: rest) a w := by
  refine wpList_plain hgd fun K hK => ?_
  have hrun := run_append_own_nil (P := P) (w := w) base t o.type e i size ht hi v n c xs hown
  unfold Oper.wp
  simp [execOp, ho, resolve, invoke, builtin, hs, hx, hrun, Result.andThen]
  exact hK _ _ h
set_option maxHeartbeats 1000000 in
set_option maxRecDepth 100000 in
theorem keepNat_any {w : World} {v : Value} {l : List Nat} {k : Nat} (h : LI w v l k) (hk : k < 1000000000) : Calls Tryz.prog 123 #[v] w (Makes w fun u w' => LI w' u l k) := by
  obtain ⟨p, c, rfl, hr, hp, hl⟩ := h
  obtain ⟨i0, hi, hz0, hz1, hz2⟩ := info_parts infoU64
  have HR := Lib.hid hr
  rcases hp with rfl | ⟨g, o, rfl⟩
  · have h0 : l = [] := by
      by_cases h0 : l = []
      · exact h0
      · obtain ⟨p', c', he, _, _, h4⟩ := hr
        obtain ⟨b', o'', rfl, _⟩ := h4 h0
        simp only [Value.slice.injEq] at he
        exact absurd he.1 (by simp)
    subst h0
    clear hr
    go_enter Tryz.func123, Tryz.ntmps123
    have hown := World.ownsRow_lit (base := w.heap.size) (e := 105) (size := 1) w #[] 0 (Nat.le_refl _) (by decide) rfl
    go_wp2_with (at_builtin; (refine wpList_append_own_nil rfl (.tmp 3) (.tmp 4) 22 rfl w.heap.size 105 i0 1 Tryz.underlying22 hi _ 0 _ _ rfl hown rfl ?_))
    go_ret
    exact ⟨_, rfl, (Bel.refl w).alloc _, some ⟨w.heap.size, 0, none⟩, 0, rfl, ⟨_, 0, rfl, Nat.le_refl _, fun x hx => by simp at hx, fun h => absurd rfl h⟩, .inr ⟨_, _, rfl⟩, hl⟩
  · obtain ⟨n, hn⟩ : ∃ n, l.length = n := ⟨_, rfl⟩
    rw [hn]
    clear hr
    go_enter Tryz.func123, Tryz.ntmps123
    have hown := World.ownsRow_lit (base := w.heap.size) (e := 105) (size := 1) w #[] 0 (Nat.le_refl _) (by decide) rfl
    have HN := Lib.hid hn
    have hk2 : n < 1000000000 := by omega
    have HKL : Hid (l.length ≤ k) := hl
    clear hn hl
    go_wp2_with (at_builtin; (refine wpList_append_own _ rfl (.tmp 3) (.tmp 4) 22 rfl w.heap.size 105 i0 _ 1 8 Tryz.underlying22 hi hz0 hz1 hz2 rfl (by decide) _ 0 _ rfl hown ⟨g, o, none⟩ n c (l.map (lmV .u64)) rfl (by simp [HN.out]) ?_ ?_ (by unfold maxLen; omega) (by omega) (by simp) ?_))
    · intro j z hj
      obtain ⟨b', o'', c', he, _, hq, _⟩ := (HR.out.bel ((Bel.refl w).alloc _)).at hj
      simp only [Value.slice.injEq, Option.some.injEq, Addr.mk.injEq, and_true] at he
      obtain ⟨⟨rfl, rfl⟩, -, -⟩ := he
      exact hq
    · intro u hu
      rfl
    · intro v' w' ho' hg' _
      have HOO := Lib.hid ho'
      have HBB := Lib.hid (grown_bel ((Bel.refl w).alloc _) hown (Nat.le_refl _) hg')
      clear ho' hg'
      go_wp2
      go_ret
      refine ⟨_, rfl, HBB.out, ?_⟩
      have h1 : O64 w' w.heap.size v' l := ⟨by rw [HN.out]; exact HOO.out, HR.out.all⟩
      obtain ⟨p', c', rfl⟩ := h1.form
      exact ⟨p', c', rfl, h1.row, h1.plain, HKL.out⟩
/-- A number's limbs. -/
def limU : U → Option (List Nat × Nat)
  | .li l k => some (l, k)
  | .nat n k => some (limB B64 n, k)
  | _ => none
theorem limU_has {C : Ctx} {w : World} {u : U} {l : List Nat} {k : Nat} {v : Value} (h : limU u = some (l, k)) (hr : V.has C w [u] v) : LI w v l k := by
  unfold limU at h
  split at h
  · cases h
    obtain ⟨v', e, h1⟩ := u_rel hr rfl
    simp only [List.cons.injEq, and_true] at e
    subst e
    exact h1
  · cases h
    obtain ⟨v', e, ⟨p, c, rfl, h1, h2⟩, h3⟩ := u_rel hr rfl
    simp only [List.cons.injEq, and_true] at e
    subst e
    exact ⟨p, c, rfl, h1, h2, lim_len_k h3⟩
  · cases h
theorem li_has {C : Ctx} {w : World} {l : List Nat} {k : Nat} {v : Value} (h : LI w v l k) : T.rel C w (.one [.li l k]) v := ⟨[v], ⟨[v], [], rfl, ⟨v, rfl, h⟩, rfl⟩, rfl⟩
def cKeep : Con
  | [[.li l k]] => .chk (k.blt LimK) (.leaf (.one [.li l k]))
  | _ => .fail
theorem ok_keep : OkCon Tryz.prog 123 cKeep := ⟨fun vs w => Go.MuLone.run_callFunc_enter Tryz.func123 rfl rfl vs w, fun args t hg C w vs _ ha => by
  unfold cKeep at hg
  split at hg
  · obtain ⟨h0, rfl⟩ := hg
    have h0 : (_ + 1 ≤ 100000000) := Nat.ble_eq.mp h0
    obtain ⟨a, rfl, h1⟩ := all1 ha
    exact (keepNat_any (limU_has rfl h1) (by omega)).mono fun _ _ h => h.imp fun _ h => li_has h
  · exact hg.elim⟩
def cNats2 : Con
  | [[a], [b]] => match limU a, limU b with | some (l, i), some (m, j) => .chk ((i + j).blt LimK) (.leaf (.one [.sym (.bool (decide (l = m)))])) | _, _ => .fail
  | _ => .fail
theorem ok_nats2 : OkCon Tryz.prog 125 cNats2 := ⟨fun vs w => Go.MuLone.run_callFunc_enter Tryz.func125 rfl rfl vs w, fun args t hg C w vs _ ha => by
  unfold cNats2 at hg
  split at hg
  · split at hg
    · rename_i l i m j hl hm
      obtain ⟨h0, rfl⟩ := hg
      have h0 : (_ + 1 ≤ 100000000) := Nat.ble_eq.mp h0
      obtain ⟨a, b, rfl, h1, h2⟩ := all2 ha
      obtain ⟨p1, c1, rfl, r1, -, s1⟩ := limU_has hl h1
      obtain ⟨p2, c2, rfl, r2, -, s2⟩ := limU_has hm h2
      refine (nats_any p1 p2 c1 c2 _ _ w r1 r2 (by omega) (by omega)).mono fun _ _ h => h.imp fun _ h => ?_
      subst h
      exact one_of rfl
    · exact hg.elim
  · exact hg.elim⟩
def cGoodN : Con
  | [[a]] => match limU a with | some (l, k) => .chk (k.blt LimK) (.leaf (.one [.sym (.bool (decide (trimL l = l)))])) | none => .fail
  | _ => .fail
theorem ok_goodN : OkCon Tryz.prog 134 cGoodN := ⟨fun vs w => Go.MuLone.run_callFunc_enter Tryz.func134 rfl rfl vs w, fun args t hg C w vs _ ha => by
  unfold cGoodN at hg
  split at hg
  · split at hg
    · rename_i l k hl
      obtain ⟨h0, rfl⟩ := hg
      have h0 : (_ + 1 ≤ 100000000) := Nat.ble_eq.mp h0
      obtain ⟨a, rfl, h1⟩ := all1 ha
      obtain ⟨p1, c1, rfl, r1, -, s1⟩ := limU_has hl h1
      refine (natGood_any p1 c1 _ w r1 (by omega)).mono fun e w' h => ?_
      obtain ⟨rfl, rfl⟩ := h
      exact ⟨_, rfl, Bel.refl _, one_of rfl⟩
    · exact hg.elim
  · exact hg.elim⟩
def conI (F : Nat → Nat → Nat → Nat → Out T) : Con
  | [[a], [b]] => match natU a, natU b with | some (n, i), some (m, j) => F n i m j | _, _ => .fail
  | _ => .fail
theorem natU_has {C : Ctx} {w : World} {u : U} {n k : Nat} {v : Value} (h : natU u = some (n, k)) (hk : k ≤ LimK) (hr : V.has C w [u] v) : NI w v n ∧ n < B64 ^ k := by
  obtain ⟨cs, ⟨c1, c2, rfl, h1, h2⟩, rfl⟩ := hr
  simp only [V.rel] at h2
  subst h2
  obtain ⟨v, rfl, h3⟩ := natU_rel h h1 hk
  exact h3
def cNgcd (n i m j : Nat) : Out T := .chk ((i + j).blt LimK) (.leaf (.one [.nat (Nat.gcd n m) (i.max j)]))
def cNcmp (n i m j : Nat) : Out T := .chk ((i + j).blt LimK) (.leaf (.one [.sym (.int .i64 (cmpN n m))]))
theorem gcd_pow {n m i j : Nat} (h1 : n < B64 ^ i) (h2 : m < B64 ^ j) : Nat.gcd n m < B64 ^ (i.max j) := by
  by_cases hn : n = 0
  · subst hn
    rw [Nat.gcd_zero_left]
    exact Nat.lt_of_lt_of_le h2 (Nat.pow_le_pow_right b64_pos (Nat.le_max_right i j))
  · exact Nat.lt_of_le_of_lt (Nat.gcd_le_left m (by omega)) (Nat.lt_of_lt_of_le h1 (Nat.pow_le_pow_right b64_pos (Nat.le_max_left i j)))
theorem ok_ngcd : OkCon Tryz.prog 135 (conI cNgcd) := ⟨fun vs w => Go.MuLone.run_callFunc_enter Tryz.func135 rfl rfl vs w, fun args t hg C w vs _ ha => by
  unfold conI at hg
  split at hg
  · split at hg
    · rename_i n i m j hn hm
      obtain ⟨h0, rfl⟩ := hg
      have h0 : (_ + 1 ≤ 100000000) := Nat.ble_eq.mp h0
      obtain ⟨a, b, rfl, h1, h2⟩ := all2 ha
      obtain ⟨h3, h4⟩ := natU_has hn (by unfold LimK; omega) h1
      obtain ⟨h5, h6⟩ := natU_has hm (by unfold LimK; omega) h2
      exact (mk_gcd h3 h5).mono fun _ _ h => h.imp fun v h => ⟨[v], ⟨[v], [], rfl, ⟨v, rfl, h, gcd_pow h4 h6⟩, rfl⟩, rfl⟩
    · exact hg.elim
  · exact hg.elim⟩
theorem ok_ncmp : OkCon Tryz.prog 115 (conI cNcmp) := ⟨fun vs w => Go.MuLone.run_callFunc_enter Tryz.func115 rfl rfl vs w, fun args t hg C w vs _ ha => by
  unfold conI at hg
  split at hg
  · split at hg
    · rename_i n i m j hn hm
      obtain ⟨h0, rfl⟩ := hg
      have h0 : (_ + 1 ≤ 100000000) := Nat.ble_eq.mp h0
      obtain ⟨a, b, rfl, h1, h2⟩ := all2 ha
      obtain ⟨h3, h4⟩ := natU_has hn (by unfold LimK; omega) h1
      obtain ⟨h5, h6⟩ := natU_has hm (by unfold LimK; omega) h2
      exact (mk_cmp h3 h5).mono fun _ _ h => h.imp fun v h => by subst h; exact one_of rfl
    · exact hg.elim
  · exact hg.elim⟩
def cNof : Con
  | [[.lit (.int .u64 1)]] => .leaf (.one [.nat 1 1])
  | _ => .fail
theorem ok_nof : OkCon Tryz.prog 116 cNof := ⟨fun vs w => Go.MuLone.run_callFunc_enter Tryz.func116 rfl rfl vs w, fun args t hg C w vs _ ha => by
  unfold cNof at hg
  split at hg
  · obtain rfl := hg
    obtain ⟨a, rfl, h1⟩ := all1 ha
    have h2 := u_rel h1 rfl
    simp only [U.rel, List.cons.injEq, and_true] at h2
    subst h2
    exact (mk_of 1 (by decide) w).mono fun _ _ h => h.imp fun v h => ⟨[v], ⟨[v], [], rfl, ⟨v, rfl, h, by decide⟩, rfl⟩, rfl⟩
  · exact hg.elim⟩
noncomputable def consX0 : List (FuncId × Con) := [(123, cKeep), (125, cNats2), (134, cGoodN), (135, conI cNgcd), (115, conI cNcmp), (116, cNof)]
theorem consX0_ok : AllCon Tryz.prog consX0 := ⟨ok_keep, ok_nats2, ok_goodN, ok_ngcd, ok_ncmp, ok_nof, trivial⟩
theorem all_app2 {P : Program} : ∀ {l m : List (FuncId × Con)}, AllCon P l → AllCon P m → AllCon P (l ++ m)
  | [], _, _, h' => h'
  | _ :: _, _, h, h' => ⟨h.1, all_app2 h.2 h'⟩
def cQin2 : Con
  | [[.inp s _ _ l m k]] => .chk (k.ble 199) (.leaf (.one [.rq (ratOf s (valB B64 l) (valB B64 m)) (k + 1)]))
  | a => cQin a
theorem ok_r3in2 : OkCon Tryz.prog 16 cQin2 := ⟨fun vs w => Go.MuLone.run_callFunc_enter Tryz.func16 rfl rfl vs w, fun args t hg C w vs hlt ha => by
  unfold cQin2 at hg
  split at hg
  · rename_i s b c l m k
    obtain ⟨h0, rfl⟩ := hg
    have h0 := Nat.ble_eq.mp h0
    obtain ⟨a, rfl, h1⟩ := all1 ha
    have hrs := asRat_rel (x := [.inp s b c l m k]) rfl h1 (by unfold LimK; omega)
    obtain ⟨cs, ⟨d1, d2, rfl, ⟨rfl, ⟨p1, c1, rfl, r1, q1, s1⟩, p2, c2, rfl, r2, q2, s2⟩, h3⟩, rfl⟩ := h1
    simp only [V.rel] at h3
    subst h3
    refine ok_r3in.2 [[.raw (.bool s) (.slice p1 l.length c1) (.slice p2 m.length c2) (ratOf s (valB B64 l) (valB B64 m)) (k + 1)]] _ ⟨⟨by omega, by omega⟩, rfl⟩ C w _ hlt ⟨_, [], rfl, ⟨[_, _, _], ⟨[_, _, _], [], rfl, ⟨rfl, hrs⟩, rfl⟩, rfl⟩, rfl⟩
  · exact ok_r3in.2 _ _ hg C w vs hlt ha⟩
noncomputable def consY0 := (16, cQin2) :: (consX0 ++ consU6)
theorem consY0_ok : AllCon Tryz.prog consY0 := ⟨ok_r3in2, all_app2 consX0_ok consU6_ok⟩
noncomputable def consY1 := fnsOf consY0 [(122, Tryz.f122), (124, Tryz.f124), (133, Tryz.f133)]
theorem consY1_ok : AllCon Tryz.prog consY1 := fns_ok consY0_ok ⟨⟨Tryz.func122, rfl, rfl⟩, ⟨Tryz.func124, rfl, rfl⟩, ⟨Tryz.func133, rfl, rfl⟩, trivial⟩
noncomputable def consY2 := fnsOf consY1 [(77, Tryz.f77), (15, Tryz.f15)]
theorem consY2_ok : AllCon Tryz.prog consY2 := fns_ok consY1_ok ⟨⟨Tryz.func77, rfl, rfl⟩, ⟨Tryz.func15, rfl, rfl⟩, trivial⟩
noncomputable def consY3 := fnsOf consY2 [(17, Tryz.f17)]
theorem consY3_ok : AllCon Tryz.prog consY3 := fns_ok consY2_ok ⟨⟨Tryz.func17, rfl, rfl⟩, trivial⟩
set_option maxHeartbeats 4000000 in
set_option maxRecDepth 100000 in
theorem zedGood_any {w : World} {u : Value} {s : Bool} {l : List Nat} {k : Nat} (h : LI w u l k) (hk : k < 1000000000) : Calls Tryz.prog 133 #[.agg #[.bool s, u]] w (Makes w fun v _ => v = .bool (decide (trimL l = l) && (!s || decide (0 < l.length)))) := by
  obtain ⟨p, c, rfl, hr, hp, hl⟩ := h
  have HG : Hid (∀ X, Bel w X → Calls Tryz.prog 134 #[.slice p l.length c] X (Makes X fun v _ => v = .bool (decide (trimL l = l)))) := fun X hX =>
    (natGood_any p c l X (hr.bel hX) (by omega)).mono fun e w' h => by
      obtain ⟨rfl, rfl⟩ := h
      exact ⟨_, rfl, Bel.refl _, rfl⟩
  obtain ⟨n, hn⟩ : ∃ n, l.length = n := ⟨_, rfl⟩
  have hn2 : n < 1000000000 := by omega
  obtain ⟨G, hGe⟩ : ∃ G, decide (trimL l = l) = G := ⟨_, rfl⟩
  rw [hGe] at HG ⊢
  rw [hn] at HG ⊢
  clear hr hp hl hn hGe hk
  cases G <;> cases s
  · skip
    go_enter Tryz.func133, Tryz.ntmps133
    go_upto_region 1 with fail
    obtain ⟨hXa, hbw⟩ := boxes1 w (.cells #[.bool false, .slice p n c] 24)
    obtain ⟨W, hW⟩ : ∃ W, w.alloc (.cells #[.bool false, .slice p n c] 24) = W := ⟨_, rfl⟩
    rw [hW] at hXa hbw ⊢
    obtain ⟨Xa, eXa⟩ : ∃ X, w.heap.size = X := ⟨_, rfl⟩
    rw [eXa]
    rw [eXa] at hXa
    have HXa := Lib.hid hXa
    have HBW := Lib.hid hbw
    have HGEXa : Hid (w.heap.size ≤ Xa) := by unfold Hid; omega
    clear hW hbw hXa eXa
    have a0 : W.cell? ⟨Xa, 0, none⟩ = some (.bool false) := (heap_cell HXa.out 0).trans rfl
    have a1 : W.cell? ⟨Xa, 1, none⟩ = some (.slice p n c) := (heap_cell HXa.out 1).trans rfl
    go_wp2_with (go_at_call 134; (with_reducible refine (HG.out _ HBW.out).mono ?_); rintro e w2 ⟨v2, rfl, hb2, rfl⟩; have HB2 := Lib.hid hb2; have b0 := hb2.cell a0; have b1 := hb2.cell a1; clear hb2 a0 a1)
    go_ret
    exact ⟨_, rfl, HBW.out.trans HB2.out, rfl⟩
  · skip
    go_enter Tryz.func133, Tryz.ntmps133
    go_upto_region 1 with fail
    obtain ⟨hXa, hbw⟩ := boxes1 w (.cells #[.bool true, .slice p n c] 24)
    obtain ⟨W, hW⟩ : ∃ W, w.alloc (.cells #[.bool true, .slice p n c] 24) = W := ⟨_, rfl⟩
    rw [hW] at hXa hbw ⊢
    obtain ⟨Xa, eXa⟩ : ∃ X, w.heap.size = X := ⟨_, rfl⟩
    rw [eXa]
    rw [eXa] at hXa
    have HXa := Lib.hid hXa
    have HBW := Lib.hid hbw
    have HGEXa : Hid (w.heap.size ≤ Xa) := by unfold Hid; omega
    clear hW hbw hXa eXa
    have a0 : W.cell? ⟨Xa, 0, none⟩ = some (.bool true) := (heap_cell HXa.out 0).trans rfl
    have a1 : W.cell? ⟨Xa, 1, none⟩ = some (.slice p n c) := (heap_cell HXa.out 1).trans rfl
    go_wp2_with (go_at_call 134; (with_reducible refine (HG.out _ HBW.out).mono ?_); rintro e w2 ⟨v2, rfl, hb2, rfl⟩; have HB2 := Lib.hid hb2; have b0 := hb2.cell a0; have b1 := hb2.cell a1; clear hb2 a0 a1)
    go_ret
    exact ⟨_, rfl, HBW.out.trans HB2.out, rfl⟩
  · skip
    go_enter Tryz.func133, Tryz.ntmps133
    go_upto_region 1 with fail
    obtain ⟨hXa, hbw⟩ := boxes1 w (.cells #[.bool false, .slice p n c] 24)
    obtain ⟨W, hW⟩ : ∃ W, w.alloc (.cells #[.bool false, .slice p n c] 24) = W := ⟨_, rfl⟩
    rw [hW] at hXa hbw ⊢
    obtain ⟨Xa, eXa⟩ : ∃ X, w.heap.size = X := ⟨_, rfl⟩
    rw [eXa]
    rw [eXa] at hXa
    have HXa := Lib.hid hXa
    have HBW := Lib.hid hbw
    have HGEXa : Hid (w.heap.size ≤ Xa) := by unfold Hid; omega
    clear hW hbw hXa eXa
    have a0 : W.cell? ⟨Xa, 0, none⟩ = some (.bool false) := (heap_cell HXa.out 0).trans rfl
    have a1 : W.cell? ⟨Xa, 1, none⟩ = some (.slice p n c) := (heap_cell HXa.out 1).trans rfl
    go_wp2_with (go_at_call 134; (with_reducible refine (HG.out _ HBW.out).mono ?_); rintro e w2 ⟨v2, rfl, hb2, rfl⟩; have HB2 := Lib.hid hb2; have b0 := hb2.cell a0; have b1 := hb2.cell a1; clear hb2 a0 a1)
    go_ret
    exact ⟨_, rfl, HBW.out.trans HB2.out, rfl⟩
  · by_cases h0 : 0 < n
    · rw [decide_eq_true h0]
      go_enter Tryz.func133, Tryz.ntmps133
      go_upto_region 1 with fail
      obtain ⟨hXa, hbw⟩ := boxes1 w (.cells #[.bool true, .slice p n c] 24)
      obtain ⟨W, hW⟩ : ∃ W, w.alloc (.cells #[.bool true, .slice p n c] 24) = W := ⟨_, rfl⟩
      rw [hW] at hXa hbw ⊢
      obtain ⟨Xa, eXa⟩ : ∃ X, w.heap.size = X := ⟨_, rfl⟩
      rw [eXa]
      rw [eXa] at hXa
      have HXa := Lib.hid hXa
      have HBW := Lib.hid hbw
      have HGEXa : Hid (w.heap.size ≤ Xa) := by unfold Hid; omega
      clear hW hbw hXa eXa
      have a0 : W.cell? ⟨Xa, 0, none⟩ = some (.bool true) := (heap_cell HXa.out 0).trans rfl
      have a1 : W.cell? ⟨Xa, 1, none⟩ = some (.slice p n c) := (heap_cell HXa.out 1).trans rfl
      go_wp2_with (go_at_call 134; (with_reducible refine (HG.out _ HBW.out).mono ?_); rintro e w2 ⟨v2, rfl, hb2, rfl⟩; have HB2 := Lib.hid hb2; have b0 := hb2.cell a0; have b1 := hb2.cell a1; clear hb2 a0 a1)
      go_ret
      exact ⟨_, rfl, HBW.out.trans HB2.out, rfl⟩
    · rw [decide_eq_false h0]
      go_enter Tryz.func133, Tryz.ntmps133
      go_upto_region 1 with fail
      obtain ⟨hXa, hbw⟩ := boxes1 w (.cells #[.bool true, .slice p n c] 24)
      obtain ⟨W, hW⟩ : ∃ W, w.alloc (.cells #[.bool true, .slice p n c] 24) = W := ⟨_, rfl⟩
      rw [hW] at hXa hbw ⊢
      obtain ⟨Xa, eXa⟩ : ∃ X, w.heap.size = X := ⟨_, rfl⟩
      rw [eXa]
      rw [eXa] at hXa
      have HXa := Lib.hid hXa
      have HBW := Lib.hid hbw
      have HGEXa : Hid (w.heap.size ≤ Xa) := by unfold Hid; omega
      clear hW hbw hXa eXa
      have a0 : W.cell? ⟨Xa, 0, none⟩ = some (.bool true) := (heap_cell HXa.out 0).trans rfl
      have a1 : W.cell? ⟨Xa, 1, none⟩ = some (.slice p n c) := (heap_cell HXa.out 1).trans rfl
      go_wp2_with (go_at_call 134; (with_reducible refine (HG.out _ HBW.out).mono ?_); rintro e w2 ⟨v2, rfl, hb2, rfl⟩; have HB2 := Lib.hid hb2; have b0 := hb2.cell a0; have b1 := hb2.cell a1; clear hb2 a0 a1)
      go_ret
      exact ⟨_, rfl, HBW.out.trans HB2.out, rfl⟩
def goodZ (s : Bool) (l : List Nat) : Bool := decide (trimL l = l) && (!s || decide (0 < l.length))
def cGoodZ : Con
  | [[u, a]] => match boolU u, limU a with | some s, some (l, k) => .chk (k.blt LimK) (.leaf (.one [.sym (.bool (goodZ s l))])) | _, _ => .fail
  | _ => .fail
theorem pair_has {C : Ctx} {w : World} {u a : U} {s : Bool} {l : List Nat} {k : Nat} {v : Value} (h1 : boolU u = some s) (h2 : limU a = some (l, k)) (hr : V.has C w [u, a] v) : ∃ x, v = .agg #[.bool s, x] ∧ LI w x l k := by
  obtain ⟨cs, ⟨c1, c2, rfl, h3, c3, c4, rfl, h4, h5⟩, rfl⟩ := hr
  simp only [V.rel] at h5
  subst h5
  obtain rfl := boolU_rel h1 h3
  have hz : a.size = 1 := by unfold limU at h2; split at h2 <;> first | rfl | cases h2
  have hl := U.rel_len h4
  rw [hz] at hl
  match c3, hl with
  | [x], _ => exact ⟨x, rfl, limU_has h2 ⟨[x], ⟨[x], [], rfl, h4, rfl⟩, rfl⟩⟩
theorem ok_goodZ : OkCon Tryz.prog 133 cGoodZ := ⟨fun vs w => Go.MuLone.run_callFunc_enter Tryz.func133 rfl rfl vs w, fun args t hg C w vs _ ha => by
  unfold cGoodZ at hg
  split at hg
  · split at hg
    · rename_i s l k hs hl
      obtain ⟨h0, rfl⟩ := hg
      have h0 : (_ + 1 ≤ 100000000) := Nat.ble_eq.mp h0
      obtain ⟨a, rfl, h1⟩ := all1 ha
      obtain ⟨x, rfl, h2⟩ := pair_has hs hl h1
      refine (zedGood_any h2 (by omega)).mono fun _ _ h => h.imp fun _ h => ?_
      subst h
      exact one_of rfl
    · exact hg.elim
  · exact hg.elim⟩
noncomputable def consZ0 := (133, cGoodZ) :: consY3
theorem consZ0_ok : AllCon Tryz.prog consZ0 := ⟨ok_goodZ, consY3_ok⟩
/-- A fraction's sign and limbs. -/
def lim3 : V → Option (Bool × List Nat × List Nat × Nat)
  | [.rat q k] => some (decide (q.num < 0), limB B64 q.num.natAbs, limB B64 q.den, k)
  | [.inp s _ _ l m k] => some (s, l, m, k)
  | [u, .li l i, .li m j] => match boolU u with | some s => some (s, l, m, i.max j) | none => none
  | _ => none
theorem LI.mono {w : World} {v : Value} {l : List Nat} {k k' : Nat} (h : LI w v l k) (hk : k ≤ k') : LI w v l k' := by
  obtain ⟨p, c, h1, h2, h3, h4⟩ := h
  exact ⟨p, c, h1, h2, h3, Nat.le_trans h4 hk⟩
theorem lim3_has {C : Ctx} {w : World} {x : V} {s : Bool} {l m : List Nat} {k : Nat} {v : Value} (h : lim3 x = some (s, l, m, k)) (hr : x.has C w v) : V.has C w [.sym (.bool s), .li l k, .li m k] v := by
  obtain ⟨cs, hr, rfl⟩ := hr
  unfold lim3 at h
  split at h
  · cases h
    obtain ⟨c1, c2, rfl, ⟨a, b, c, rfl, ⟨⟨u, d, he, ⟨p1, e1, rfl, r1, q1⟩, p2, e2, rfl, r2, q2⟩, z1, z2⟩, -⟩, h3⟩ := hr
    simp only [V.rel] at h3
    subst h3
    simp only [Value.agg.injEq, Array.mk.injEq, List.cons.injEq, and_true] at he
    obtain ⟨rfl, rfl, rfl⟩ := he
    exact ⟨[_, _, _], ⟨[_], [_, _], rfl, rfl, [_], [_], rfl, ⟨_, rfl, p1, e1, rfl, r1, q1, lim_len_k z1⟩, [_], [], rfl, ⟨_, rfl, p2, e2, rfl, r2, q2, lim_len_k z2⟩, rfl⟩, rfl⟩
  · cases h
    obtain ⟨c1, c2, rfl, ⟨rfl, h1, h2⟩, h3⟩ := hr
    simp only [V.rel] at h3
    subst h3
    exact ⟨[_, _, _], ⟨[_], [_, _], rfl, rfl, [_], [_], rfl, ⟨_, rfl, h1⟩, [_], [], rfl, ⟨_, rfl, h2⟩, rfl⟩, rfl⟩
  · rename_i u l' i m' j
    split at h
    · rename_i s' hs
      cases h
      obtain ⟨c1, c2, rfl, h1, c3, c4, rfl, ⟨v1, rfl, h2⟩, c5, c6, rfl, ⟨v2, rfl, h3⟩, h4⟩ := hr
      simp only [V.rel] at h4
      subst h4
      obtain rfl := boolU_rel hs h1
      exact ⟨[_, _, _], ⟨[_], [_, _], rfl, rfl, [_], [_], rfl, ⟨_, rfl, h2.mono (Nat.le_max_left i j)⟩, [_], [], rfl, ⟨_, rfl, h3.mono (Nat.le_max_right i j)⟩, rfl⟩, rfl⟩
    · cases h
  · cases h
end Go.Proofs.YtafmfnpjhhaikaaGreatDoor
