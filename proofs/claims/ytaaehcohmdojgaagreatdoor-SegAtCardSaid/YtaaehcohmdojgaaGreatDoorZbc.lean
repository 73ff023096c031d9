/-
  gessoref03 in contracts: sums, products, quotients, which is greater.
-/
import Derived.Test.YtaaehcohmdojgaaGreatDoorZbb
import Derived.Test.YtaaehcohmdojgaaGreatDoorZah
import Derived.Test.YtaaehcohmdojgaaGreatDoorZaz
import Derived.Test.YtaaehcohmdojgaaGreatDoorZat
namespace Go.Proofs.YtaaehcohmdojgaaGreatDoor
open Go.RowKit Go.Shelf

theorem rq_conv {C : Ctx} {w : World} {q q' : Rat} {k k' : Nat} {v : Value} (h : T.rel C w (.one [.rq q k]) v) (he : q = q') (hs : Sz k' q') : T.rel C w (.one [.rq q' k']) v := by
  subst he
  obtain ⟨cs, ⟨c1, c2, rfl, ⟨a, b, c, rfl, h1, -⟩, h3⟩, rfl⟩ := h
  exact ⟨_, ⟨_, _, rfl, ⟨a, b, c, rfl, h1, hs⟩, h3⟩, rfl⟩
theorem sgn_pos (n : Nat) : sgnI false n = (n : Int) := rfl
theorem blt_of {a : Nat} (h : a + 1 ≤ 100000000) : a.blt LimK = true := Nat.ble_eq.mpr h
theorem max_same (a : Nat) : Nat.max a a = a := Nat.max_self a
def lim4 (i j : Nat) : Bool := ((i + j) * 4 + 4).blt LimK
theorem lim4_of {i j : Nat} (h : lim4 i j = true) : (i + j) * 4 + 5 ≤ 100000000 := Nat.ble_eq.mp h
def cQadd (q : Rat) (i : Nat) (r : Rat) (j : Nat) : Out T := .chk (lim4 i j) (.leaf (.one [.rq (q + r) (i + j + 1)]))
def cQsub (q : Rat) (i : Nat) (r : Rat) (j : Nat) : Out T := .chk (lim4 i j) (.leaf (.one [.rq (q - r) (i + j + 1)]))
def cQmul (q : Rat) (i : Nat) (r : Rat) (j : Nat) : Out T := .chk (lim4 i j) (.leaf (.one [.rq (q * r) (i + j)]))
def cQdiv (q : Rat) (i : Nat) (r : Rat) (j : Nat) : Out T := .chk (lim4 i j) (.need (r ≠ 0) (.leaf (.one [.rq (q / r) (i + j)])))
def cQcmp (q : Rat) (i : Nat) (r : Rat) (j : Nat) : Out T := .chk (lim4 i j) (.leaf (.one [.sym (.int .i64 (cmpR q r))]))
theorem r3add_tree (q r : Rat) (i j : Nat) : exFn (envOf consS2) Tryz.f97 [[.rq q i], [.rq r j]] = .chk ((i + j).blt LimK) (.chk ((j + i).blt LimK) (.chk ((i + j + (j + i)).blt LimK) (.chk ((i + j).blt LimK) (.chk (((i + j).max (j + i) + 1 + (i + j)).blt LimK) (.need (q.den * r.den ≠ 0)
    (.leaf (.one [.rq (mkRat (sgnI (decide (sgnI (decide (q.num < 0)) q.num.natAbs * sgnI false r.den < 0)) (sgnI (decide (q.num < 0)) q.num.natAbs * sgnI false r.den).natAbs + sgnI (decide (sgnI (decide (r.num < 0)) r.num.natAbs * sgnI false q.den < 0)) (sgnI (decide (r.num < 0)) r.num.natAbs * sgnI false q.den).natAbs) (q.den * r.den)) (((i + j).max (j + i) + 1).max (i + j))]))))))) := by kernel_rfl
theorem ok_r3add : OkCon Tryz.prog 97 (conQ2 cQadd) := q2_ok (fun vs w => Go.MuLone.run_callFunc_enter Tryz.func97 rfl rfl vs w) fun q i r j t h C w vs hlt ha hq hr => by
  obtain ⟨h1, rfl⟩ := h
  have h1 := lim4_of h1
  have hm : (i + j).max (j + i) = i + j := by rw [Nat.add_comm j i]; exact max_same _
  refine (fn_tree (envOf_ok consS2_ok) Tryz.func97 (r3add_tree q r i j) (t := _) ⟨blt_of (by omega), blt_of (by omega), blt_of (by omega), blt_of (by omega), by rw [hm]; exact blt_of (by omega), Nat.mul_ne_zero q.den_nz r.den_nz, rfl⟩ hlt ha).mono fun _ _ h => h.imp fun _ h => ?_
  refine rq_conv h ?_ (hq.add hr)
  simp only [sgn_of, sgn_pos]
  rw [rat_add]
theorem r3mul_tree (q r : Rat) (i j : Nat) : exFn (envOf consS2) Tryz.f79 [[.rq q i], [.rq r j]] = .chk ((i + j).blt LimK) (.chk ((i + j).blt LimK) (.chk ((i + j + (i + j)).blt LimK) (.need (q.den * r.den ≠ 0)
    (.leaf (.one [.rq (mkRat (sgnI (decide (q.num < 0)) q.num.natAbs * sgnI (decide (r.num < 0)) r.num.natAbs) (q.den * r.den)) ((i + j).max (i + j))]))))) := by kernel_rfl
theorem ok_r3mul : OkCon Tryz.prog 79 (conQ2 cQmul) := q2_ok (fun vs w => Go.MuLone.run_callFunc_enter Tryz.func79 rfl rfl vs w) fun q i r j t h C w vs hlt ha hq hr => by
  obtain ⟨h1, rfl⟩ := h
  have h1 := lim4_of h1
  refine (fn_tree (envOf_ok consS2_ok) Tryz.func79 (r3mul_tree q r i j) (t := _) ⟨blt_of (by omega), blt_of (by omega), blt_of (by omega), Nat.mul_ne_zero q.den_nz r.den_nz, rfl⟩ hlt ha).mono fun _ _ h => h.imp fun _ h => ?_
  refine rq_conv h ?_ (hq.mul hr)
  simp only [sgn_of]
  rw [rat_mul]
theorem r3div_tree (q r : Rat) (i j : Nat) : exFn (envOf consS2) Tryz.f42 [[.rq q i], [.rq r j]] = .chk ((i + j).blt LimK) (.br (decide (cmpR r 0 < 0))
    (.chk ((i + j).blt LimK) (.chk ((i + j + (i + j)).blt LimK) (.need (q.den * r.num.natAbs ≠ 0) (.leaf (.one [.rq (mkRat (-sgnI (decide (sgnI (decide (q.num < 0)) q.num.natAbs * sgnI false r.den < 0)) (sgnI (decide (q.num < 0)) q.num.natAbs * sgnI false r.den).natAbs) (q.den * r.num.natAbs)) ((i + j).max (i + j))])))))
    (.chk ((i + j).blt LimK) (.chk ((i + j + (i + j)).blt LimK) (.need (q.den * r.num.natAbs ≠ 0) (.leaf (.one [.rq (mkRat (sgnI (decide (q.num < 0)) q.num.natAbs * sgnI false r.den) (q.den * r.num.natAbs)) ((i + j).max (i + j))])))))) := by kernel_rfl
theorem cmpR_num (r : Rat) : cmpR r 0 < 0 ↔ r.num < 0 := by
  rw [← sgn_cmp]
  unfold sgnN
  split
  · simp_all
  · split <;> simp_all
theorem div_form (q r : Rat) : q / r = mkRat (if r.num < 0 then -(q.num * r.den) else q.num * r.den) (q.den * r.num.natAbs) := by
  rw [rat_div]
  have hd : (0 : Int) < q.den := by have := q.den_nz; omega
  have h1 : r.num * (q.den : Int) < 0 ↔ r.num < 0 := ⟨fun h => Int.lt_of_not_ge fun h' => absurd (Int.mul_nonneg h' (Int.le_of_lt hd)) (by omega), fun h => Int.mul_neg_of_neg_of_pos h hd⟩
  simp only [h1, Int.natAbs_mul, Int.natAbs_natCast, Nat.mul_comm]
theorem ok_r3div : OkCon Tryz.prog 42 (conQ2 cQdiv) := q2_ok (fun vs w => Go.MuLone.run_callFunc_enter Tryz.func42 rfl rfl vs w) fun q i r j t h C w vs hlt ha hq hr => by
  obtain ⟨h1, hr0, rfl⟩ := h
  have h1 := lim4_of h1
  have hn : r.num ≠ 0 := fun h => hr0 (Rat.num_eq_zero.1 h)
  have hne : q.den * r.num.natAbs ≠ 0 := Nat.mul_ne_zero q.den_nz (by omega)
  by_cases hs : r.num < 0
  · refine (fn_tree (envOf_ok consS2_ok) Tryz.func42 (r3div_tree q r i j) (t := _) ⟨blt_of (by omega), .inl ⟨decide_eq_true ((cmpR_num r).2 hs), blt_of (by omega), blt_of (by omega), hne, rfl⟩⟩ hlt ha).mono fun _ _ h => h.imp fun _ h => ?_
    refine rq_conv h ?_ (hq.div hr hn)
    simp only [sgn_of, sgn_pos]
    rw [div_form, if_pos hs]
  · refine (fn_tree (envOf_ok consS2_ok) Tryz.func42 (r3div_tree q r i j) (t := _) ⟨blt_of (by omega), .inr ⟨decide_eq_false (fun h => hs ((cmpR_num r).1 h)), blt_of (by omega), blt_of (by omega), hne, rfl⟩⟩ hlt ha).mono fun _ _ h => h.imp fun _ h => ?_
    refine rq_conv h ?_ (hq.div hr hn)
    simp only [sgn_of, sgn_pos]
    rw [div_form, if_neg hs]
theorem r3cmp_tree (q r : Rat) (i j : Nat) : exFn (envOf consS2) Tryz.f45 [[.rq q i], [.rq r j]] = .chk ((i + j).blt LimK) (.chk ((j + i).blt LimK) (.chk ((i + j + (j + i)).blt LimK)
    (.leaf (.one [.sym (.int .i64 (sgnN (sgnI (decide (sgnI (decide (q.num < 0)) q.num.natAbs * sgnI false r.den < 0)) (sgnI (decide (q.num < 0)) q.num.natAbs * sgnI false r.den).natAbs - sgnI (decide (sgnI (decide (r.num < 0)) r.num.natAbs * sgnI false q.den < 0)) (sgnI (decide (r.num < 0)) r.num.natAbs * sgnI false q.den).natAbs)))])))) := by kernel_rfl
theorem ok_r3cmp : OkCon Tryz.prog 45 (conQ2 cQcmp) := q2_ok (fun vs w => Go.MuLone.run_callFunc_enter Tryz.func45 rfl rfl vs w) fun q i r j t h C w vs hlt ha hq hr => by
  obtain ⟨h1, rfl⟩ := h
  have h1 := lim4_of h1
  refine (fn_tree (envOf_ok consS2_ok) Tryz.func45 (r3cmp_tree q r i j) (t := _) ⟨blt_of (by omega), blt_of (by omega), blt_of (by omega), rfl⟩ hlt ha).mono fun _ _ h => h.imp fun _ h => ?_
  simp only [sgn_of, sgn_pos] at h
  rw [← cmp_sgn] at h
  exact h
noncomputable def consT0 :=
  (97, conQ2 cQadd) ::
  (79, conQ2 cQmul) ::
  (42, conQ2 cQdiv) ::
  (45, conQ2 cQcmp) ::
  consS2
theorem consT0_ok : AllCon Tryz.prog consT0 := by
  refine ?_
  refine ⟨ok_r3add, ?_⟩
  refine ⟨ok_r3mul, ?_⟩
  refine ⟨ok_r3div, ?_⟩
  refine ⟨ok_r3cmp, ?_⟩
  exact consS2_ok
theorem r3sub_tree (q r : Rat) (i j : Nat) : exFn (envOf consT0) Tryz.f55 [[.rq q i], [.rq r j]] = .chk (lim4 i j) (.leaf (.one [.rq (q + -r) (i + j + 1)])) := by kernel_rfl
theorem ok_r3sub : OkCon Tryz.prog 55 (conQ2 cQsub) := q2_ok (fun vs w => Go.MuLone.run_callFunc_enter Tryz.func55 rfl rfl vs w) fun q i r j t h C w vs hlt ha hq hr => by
  obtain ⟨h1, rfl⟩ := h
  refine (fn_tree (envOf_ok consT0_ok) Tryz.func55 (r3sub_tree q r i j) (t := _) ⟨h1, rfl⟩ hlt ha).mono fun _ _ h => h.imp fun _ h => ?_
  exact rq_conv h (Rat.sub_eq_add_neg _ _).symm (hq.sub hr)
/-! ### What came in -/
def cQin : Con
  | [[.raw (.bool _) (.slice _ n _) (.slice _ m _) q k]] => .need (n ≤ 200 ∧ m ≤ 200) (.leaf (.one [.rq q k]))
  | _ => .fail
theorem r3in_tree (s : Bool) (n m : Nat) : exFn (envOf consR2) Tryz.f20 [[.sym (.bool s), .ni n 200, .ni m 200]] = .br ((((limB B32 m).length : Nat) : Int) == 0) (.chk ((200 + 1).blt LimK) (.need (1 ≠ 0) (.leaf (.one [.rq (mkRat (sgnI s n) 1) (Nat.max 200 1)]))))
    (.chk ((200 + 200).blt LimK) (.need (m ≠ 0) (.leaf (.one [.rq (mkRat (sgnI s n) m) (Nat.max 200 200)])))) := by kernel_rfl
theorem ni_lt {w : World} {p : Option Addr} {n c x : Nat} (h : NI w (.slice p n c) x) (hn : n ≤ 200) : x < B64 ^ 200 := by
  obtain ⟨p', c', l, he, hr, -, rfl, -⟩ := h
  simp only [Value.slice.injEq] at he
  have := val_lt hr.all
  exact Nat.lt_of_lt_of_le this (Nat.pow_le_pow_right b64_pos (by omega))
theorem ok_r3in : OkCon Tryz.prog 20 cQin := ⟨fun vs w => Go.MuLone.run_callFunc_enter Tryz.func20 rfl rfl vs w, fun args t hg C w vs hlt ha => by
  unfold cQin at hg
  split at hg
  · rename_i s p1 n1 c1 p2 n2 c2 q k
    obtain ⟨⟨hn, hm⟩, rfl⟩ := hg
    obtain ⟨a, rfl, ⟨cs, ⟨d1, d2, rfl, ⟨rfl, ⟨s', u, d, n, m, he, h1, h2, hq⟩, hs⟩, h3⟩, rfl⟩⟩ := all1 ha
    simp only [V.rel] at h3
    subst h3
    simp only [Value.agg.injEq, Array.mk.injEq, List.cons.injEq, and_true, Value.bool.injEq] at he
    obtain ⟨rfl, rfl, rfl⟩ := he
    have hh : V.hasAll C w [[.sym (.bool s), .ni n 200, .ni m 200]] [.agg #[.bool s, .slice p1 n1 c1, .slice p2 n2 c2]] :=
      ⟨_, [], rfl, ⟨[_, _, _], ⟨[_], [_, _], rfl, rfl, [_], [_], rfl, ⟨_, rfl, h1, ni_lt h1 hn⟩, [_], [], rfl, ⟨_, rfl, h2, ni_lt h2 hm⟩, rfl⟩, rfl⟩, rfl⟩
    by_cases hm0 : m = 0
    · subst hm0
      refine (fn_tree (envOf_ok consR2_ok) Tryz.func20 (r3in_tree s n 0) (t := _) (.inl ⟨by rw [lim_zero]; rfl, blt_of (by decide), by decide, rfl⟩) hlt hh).mono fun _ _ h => h.imp fun _ h => ?_
      exact rq_conv h (by rw [← hq]; rfl) hs
    · refine (fn_tree (envOf_ok consR2_ok) Tryz.func20 (r3in_tree s n m) (t := _) (.inr ⟨len_ne hm0, blt_of (by decide), hm0, rfl⟩) hlt hh).mono fun _ _ h => h.imp fun _ h => ?_
      exact rq_conv h (by rw [← hq, ratOf, if_neg hm0]) hs
  · exact hg.elim⟩
noncomputable def consT1 :=
  (55, conQ2 cQsub) ::
  (20, cQin) ::
  consT0
theorem consT1_ok : AllCon Tryz.prog consT1 := by
  refine ?_
  refine ⟨ok_r3sub, ?_⟩
  refine ⟨ok_r3in, ?_⟩
  exact consT0_ok
end Go.Proofs.YtaaehcohmdojgaaGreatDoor

/-
  gessokeep: are two numbers alike, limb by limb?
-/
namespace Go.Proofs.YtaaehcohmdojgaaGreatDoor
open Go.RowKit Go.Shelf

theorem take_step {l1 l2 : List Nat} {i x : Nat} (h : l1.take i = l2.take i) (h1 : l1[i]? = some x) (h2 : l2[i]? = some x) : l1.take (i + 1) = l2.take (i + 1) := by
  rw [List.take_add_one, List.take_add_one, h, h1, h2]
set_option maxHeartbeats 4000000 in
set_option maxRecDepth 100000 in
theorem nats_any (p1 p2 : Option Addr) (c1 c2 : Nat) (l1 l2 : List Nat) (w : World) (h1 : R64 w (.slice p1 l1.length c1) l1) (h2 : R64 w (.slice p2 l2.length c2) l2) (hl1 : l1.length < 1000000000) (_ : l2.length < 1000000000) :
    Calls Tryz.prog 100 #[.slice p1 l1.length c1, .slice p2 l2.length c2] w (Makes w fun v _ => v = .bool (decide (l1 = l2))) := by
  have H1 := Lib.hid h1
  have H2 := Lib.hid h2
  clear h1 h2
  by_cases hle : l1.length = l2.length
  · have HLE := Lib.hid hle
    obtain ⟨n, hn⟩ : ∃ n, l1.length = n := ⟨_, rfl⟩
    have hn2 : l2.length = n := by omega
    have HN1 := Lib.hid hn
    have HN2 := Lib.hid hn2
    rw [hn] at hl1
    rw [hn2, hn]
    obtain ⟨R, hR⟩ : ∃ R, decide (l1 = l2) = R := ⟨_, rfl⟩
    have HR := Lib.hid hR
    rw [hR]
    clear hle hn hn2 hR
    go_enter Tryz.func100, Tryz.ntmps100
    go_wp2
    go_loopg [5] n (fun gf s5 wx => ∃ i : Nat, s5 = .int .i64 i ∧ i ≤ n ∧ n ≤ i + gf ∧ l1.take i = l2.take i ∧ Bel w wx)
    case atStart => exact ⟨0, rfl, by omega, by omega, rfl, Bel.refl w⟩
    case round =>
      obtain ⟨i, rfl, hi, hig, hrel, hb⟩ := hrel
      have HREL := Lib.hid hrel
      have HB := Lib.hid hb
      clear hrel hb
      by_cases hlt : i < n
      · obtain ⟨gk', rfl⟩ : ∃ g, gk = g + 1 := ⟨gk - 1, by omega⟩
        obtain ⟨x, hx⟩ : ∃ x, l1[i]? = some x := ⟨_, List.getElem?_eq_getElem (by have := HN1.out; omega)⟩
        obtain ⟨y, hy⟩ : ∃ y, l2[i]? = some y := ⟨_, List.getElem?_eq_getElem (by have := HN2.out; omega)⟩
        obtain ⟨b1, o1, e1, he1, hc1, q1, _⟩ := (H1.out.bel HB.out).at hx
        obtain ⟨b2, o2, e2, he2, hc2, q2, _⟩ := (H2.out.bel HB.out).at hy
        rw [HN1.out] at he1 hc1
        rw [HN2.out] at he2 hc2
        simp only [Value.slice.injEq] at he1 he2
        obtain ⟨rfl, _, rfl⟩ := he1
        obtain ⟨rfl, _, rfl⟩ := he2
        have HX := Lib.hid hx
        have HY := Lib.hid hy
        clear hx hy
        by_cases hxy : x = y
        · subst hxy
          have HST := Lib.hid (take_step HREL.out HX.out HY.out)
          have hne : (!((x : Int) == (x : Int))) = false := by simp
          go_wp2
          go_quiet (fail)
          go_wp2
          go_roundg gk'
          case measure => omega
          case rel => exact ⟨i + 1, by go_num, by omega, by omega, HST.out, HB.out.drewN _⟩
        · have hne : (!((x : Int) == (y : Int))) = true := by simp; omega
          have HF : Hid (R = false) := by
            unfold Hid
            rw [← HR.out]
            refine decide_eq_false fun h => hxy ?_
            have h3 := HX.out
            rw [h, HY.out] at h3
            exact (Option.some.inj h3).symm
          go_wp2
          go_quiet (fail)
          go_wp2
          go_ret
          exact ⟨_, rfl, HB.out.drewN _, by show Value.bool false = Value.bool R; rw [HF.out]⟩
      · obtain rfl : i = n := by omega
        have HT : Hid (R = true) := by
          unfold Hid
          rw [← HR.out]
          refine decide_eq_true ?_
          have h3 := HREL.out
          rwa [List.take_of_length_le (by have := HN1.out; omega), List.take_of_length_le (by have := HN2.out; omega)] at h3
        go_wp2
        go_ret
        exact ⟨_, rfl, HB.out, by show Value.bool true = Value.bool R; rw [HT.out]⟩
  · have hF : decide (l1 = l2) = false := decide_eq_false fun h => hle (by rw [h])
    rw [hF]
    have hne : (!((l1.length : Int) == (l2.length : Int))) = true := by simp; omega
    clear hF
    go_enter Tryz.func100, Tryz.ntmps100
    go_wp2
    go_ret
    exact ⟨_, rfl, Bel.refl w, rfl⟩
end Go.Proofs.YtaaehcohmdojgaaGreatDoor

/-
  gessokeep, gessolaw03, gessoref06, gessoref09 in contracts.
-/
namespace Go.Proofs.YtaaehcohmdojgaaGreatDoor
open Go.RowKit Go.Shelf

def cNats : Con
  | [[.nat n i], [.nat m j]] => .chk ((i + j).blt LimK) (.leaf (.one [.sym (.bool (decide (n = m)))]))
  | _ => .fail
theorem lim_len_k {n k : Nat} (h : n < B64 ^ k) : (limB B64 n).length ≤ k := lim_len b64_two h
theorem ok_nats : OkCon Tryz.prog 100 cNats := ⟨fun vs w => Go.MuLone.run_callFunc_enter Tryz.func100 rfl rfl vs w, fun args t hg C w vs _ ha => by
  unfold cNats at hg
  split at hg
  · rename_i n i m j
    obtain ⟨h0, rfl⟩ := hg
    have h0 : (_ + 1 ≤ 100000000) := Nat.ble_eq.mp h0
    obtain ⟨a, b, rfl, h1, h2⟩ := all2 ha
    obtain ⟨v1, e1, ⟨p1, c1, rfl, r1, -⟩, s1⟩ := u_rel h1 rfl
    obtain ⟨v2, e2, ⟨p2, c2, rfl, r2, -⟩, s2⟩ := u_rel h2 rfl
    simp only [List.cons.injEq, and_true] at e1 e2
    subst e1 e2
    have := lim_len_k s1
    have := lim_len_k s2
    refine (nats_any p1 p2 c1 c2 _ _ w r1 r2 (by omega) (by omega)).mono fun _ _ h => h.imp fun _ h => ?_
    subst h
    refine one_of ?_
    rw [show decide (limB B64 n = limB B64 m) = decide (n = m) from by
      rw [decide_eq_decide]; exact ⟨fun h => lim_inj b64_two h, fun h => by rw [h]⟩]
    rfl
  · exact hg.elim⟩
noncomputable def consU0 :=
  (100, cNats) ::
  consT1
theorem consU0_ok : AllCon Tryz.prog consU0 := by
  refine ?_
  refine ⟨ok_nats, ?_⟩
  exact consT1_ok
noncomputable def consU1 := fnsOf consU0 (
  (99, Tryz.f99) ::
  [])
theorem consU1_ok : AllCon Tryz.prog consU1 := fns_ok consU0_ok (by first | exact trivial | exact ⟨
  ⟨Tryz.func99, rfl, rfl⟩,
  trivial⟩)
theorem rats_tree (q r : Rat) (i j : Nat) : exFn (envOf consU1) Tryz.f56 [[.rat q i], [.rat r j]] = .br (decide (q.num < 0) == decide (r.num < 0)) (.chk ((i + j).blt LimK) (.br (decide (q.num.natAbs = r.num.natAbs)) (.chk ((i + j).blt LimK) (.leaf (.one [.sym (.bool (decide (q.den = r.den)))]))) (.leaf (.one [.lit (.bool false)])))) (.leaf (.one [.lit (.bool false)])) := by kernel_rfl
def cRats : Con
  | [[.rat q i], [.rat r j]] => .chk ((i + j).blt LimK) (.leaf (.one [.sym (.bool (decide (q = r)))]))
  | _ => .fail
theorem ok_rats : OkCon Tryz.prog 56 cRats := ⟨fun vs w => Go.MuLone.run_callFunc_enter Tryz.func56 rfl rfl vs w, fun args t hg C w vs hlt ha => by
  unfold cRats at hg
  split at hg
  · rename_i q i r j
    obtain ⟨h0, rfl⟩ := hg
    have key := fun t ht => fn_tree (envOf_ok consU1_ok) Tryz.func56 (rats_tree q r i j) (t := t) ht hlt ha
    by_cases hs : (decide (q.num < 0) == decide (r.num < 0)) = true
    · by_cases hn : q.num.natAbs = r.num.natAbs
      · refine (key _ (.inl ⟨hs, h0, .inl ⟨decide_eq_true hn, h0, rfl⟩⟩)).mono fun _ _ h => h.imp fun _ h => ?_
        rw [show decide (q = r) = decide (q.den = r.den) from by
          rw [decide_eq_decide]
          refine ⟨fun h => by rw [h], fun h => Rat.ext ?_ h⟩
          simp only [beq_iff_eq, decide_eq_decide] at hs
          omega]
        exact h
      · refine (key _ (.inl ⟨hs, h0, .inr ⟨decide_eq_false hn, rfl⟩⟩)).mono fun _ _ h => h.imp fun _ h => ?_
        rw [show decide (q = r) = false from decide_eq_false fun h => hn (by rw [h])]
        exact h
    · have hs' : (decide (q.num < 0) == decide (r.num < 0)) = false := by simpa using hs
      refine (key _ (.inr ⟨hs', rfl⟩)).mono fun _ _ h => h.imp fun _ h => ?_
      rw [show decide (q = r) = false from decide_eq_false fun h => hs (by rw [h]; simp)]
      exact h
  · exact hg.elim⟩
noncomputable def consU2 :=
  (56, cRats) ::
  consU1
theorem consU2_ok : AllCon Tryz.prog consU2 := by
  refine ?_
  refine ⟨ok_rats, ?_⟩
  exact consU1_ok
noncomputable def consU3 := fnsOf consU2 (
  (23, Tryz.f23) ::
  (10, Tryz.f10) ::
  (38, Tryz.f38) ::
  (85, Tryz.f85) ::
  (39, Tryz.f39) ::
  (86, Tryz.f86) ::
  (88, Tryz.f88) ::
  (40, Tryz.f40) ::
  (44, Tryz.f44) ::
  (32, Tryz.f32) ::
  [])
theorem consU3_ok : AllCon Tryz.prog consU3 := fns_ok consU2_ok (by first | exact trivial | exact ⟨
  ⟨Tryz.func23, rfl, rfl⟩,
  ⟨Tryz.func10, rfl, rfl⟩,
  ⟨Tryz.func38, rfl, rfl⟩,
  ⟨Tryz.func85, rfl, rfl⟩,
  ⟨Tryz.func39, rfl, rfl⟩,
  ⟨Tryz.func86, rfl, rfl⟩,
  ⟨Tryz.func88, rfl, rfl⟩,
  ⟨Tryz.func40, rfl, rfl⟩,
  ⟨Tryz.func44, rfl, rfl⟩,
  ⟨Tryz.func32, rfl, rfl⟩,
  trivial⟩)
noncomputable def consU4 := fnsOf consU3 (
  (46, Tryz.f46) ::
  (43, Tryz.f43) ::
  [])
theorem consU4_ok : AllCon Tryz.prog consU4 := fns_ok consU3_ok (by first | exact trivial | exact ⟨
  ⟨Tryz.func46, rfl, rfl⟩,
  ⟨Tryz.func43, rfl, rfl⟩,
  trivial⟩)
noncomputable def consU5 := fnsOf consU4 (
  (89, Tryz.f89) ::
  [])
theorem consU5_ok : AllCon Tryz.prog consU5 := fns_ok consU4_ok (by first | exact trivial | exact ⟨
  ⟨Tryz.func89, rfl, rfl⟩,
  trivial⟩)
noncomputable def consU6 := fnsOf consU5 (
  (48, Tryz.f48) ::
  [])
theorem consU6_ok : AllCon Tryz.prog consU6 := fns_ok consU5_ok (by first | exact trivial | exact ⟨
  ⟨Tryz.func48, rfl, rfl⟩,
  trivial⟩)
end Go.Proofs.YtaaehcohmdojgaaGreatDoor

/-
  seg.at, Level, Upright; gessolaw07.wakes; gessokeep.Lines.
-/
namespace Go.Proofs.YtaaehcohmdojgaaGreatDoor
open Go.RowKit Go.Shelf
open Sg

noncomputable def consG5 := fnsOf consG4 [(49, Tryz.f49)]
theorem consG5_ok : AllCon Tryz.prog consG5 := fns_ok consG4_ok ⟨⟨Tryz.func49, rfl, rfl⟩, trivial⟩
noncomputable def consG6 := fnsOf consG5 [(18, Tryz.f18), (19, Tryz.f19)]
theorem consG6_ok : AllCon Tryz.prog consG6 := fns_ok consG5_ok ⟨⟨Tryz.func18, rfl, rfl⟩, ⟨Tryz.func19, rfl, rfl⟩, trivial⟩
theorem ok_wakes07 : OkCon Tryz.prog 9 cTrue := ok_wakes consG6_ok Tryz.func9 rfl rfl (.inr (by kernel_rfl))
noncomputable def consG7 : List (FuncId × Con) := (9, cTrue) :: consG6
theorem consG7_ok : AllCon Tryz.prog consG7 := ⟨ok_wakes07, consG6_ok⟩
theorem con_append {P : Program} : ∀ {l m : List (FuncId × Con)}, AllCon P l → AllCon P m → AllCon P (l ++ m)
  | [], _, _, h => h
  | _ :: _, _, h, k => ⟨h.1, con_append h.2 k⟩
noncomputable def consG8 := fnsOf (consG7 ++ consU6) [(11, Tryz.f11)]
theorem consG8_ok : AllCon Tryz.prog consG8 := fns_ok (con_append consG7_ok consU6_ok) ⟨⟨Tryz.func11, rfl, rfl⟩, trivial⟩
end Go.Proofs.YtaaehcohmdojgaaGreatDoor

/-
  Small laws for the laws of segments.
-/
namespace Go.Proofs.YtaaehcohmdojgaaGreatDoor
open Go.RowKit Go.Shelf
open Sg

theorem cmp_vals (x : Rat) : (cmpR x 0 = -1 ∧ x < 0) ∨ (cmpR x 0 = 0 ∧ x = 0) ∨ (cmpR x 0 = 1 ∧ 0 < x) := by
  unfold cmpR
  by_cases h : x < 0
  · exact .inl ⟨if_pos h, h⟩
  · by_cases h0 : x = 0
    · exact .inr (.inl ⟨by rw [if_neg h, if_pos h0], h0⟩)
    · exact .inr (.inr ⟨by rw [if_neg h, if_neg h0], by grind⟩)
theorem prod_sign (x y : Rat) : (0 < x * y ↔ (0 < x ∧ 0 < y) ∨ (x < 0 ∧ y < 0)) ∧ (x * y < 0 ↔ (0 < x ∧ y < 0) ∨ (x < 0 ∧ 0 < y)) := by
  have key : ∀ x y : Rat, 0 < x → 0 < y → 0 < x * y := fun x y h k => Rat.mul_pos h k
  have k1 := key x y
  have k2 := key (-x) (-y)
  have k3 := key (-x) y
  have k4 := key x (-y)
  have z1 : x = 0 → x * y = 0 := fun h => by rw [h, Rat.zero_mul]
  have z2 : y = 0 → x * y = 0 := fun h => by rw [h, Rat.mul_zero]
  obtain ⟨p, hp⟩ : ∃ p, x * y = p := ⟨_, rfl⟩
  have e2 : -x * -y = p := by rw [← hp]; grind
  have e3 : -x * y = -p := by rw [← hp]; grind
  have e4 : x * -y = -p := by rw [← hp]; grind
  rw [hp] at k1 z1 z2
  rw [e2] at k2
  rw [e3] at k3
  rw [e4] at k4
  rw [hp]
  constructor <;> constructor <;> intro h <;> grind
theorem wrap_small {n : Int} (h : -1 ≤ n ∧ n ≤ 1) : IntKind.i64.wrap n = n := IntWalk.i64_in _ (by omega)
theorem sg_pos (x y : Rat) : (IntKind.i64.wrap (cmpR x 0 * cmpR y 0) > 0) = (0 < x * y) := by
  rw [(prod_sign x y).1]
  rcases cmp_vals x with ⟨e, h⟩ | ⟨e, h⟩ | ⟨e, h⟩ <;> rcases cmp_vals y with ⟨f, k⟩ | ⟨f, k⟩ | ⟨f, k⟩ <;> rw [e, f, wrap_small (by decide)] <;> grind
theorem sg_neg (x y : Rat) : (IntKind.i64.wrap (cmpR x 0 * cmpR y 0) < 0) = (x * y < 0) := by
  rw [(prod_sign x y).2]
  rcases cmp_vals x with ⟨e, h⟩ | ⟨e, h⟩ | ⟨e, h⟩ <;> rcases cmp_vals y with ⟨f, k⟩ | ⟨f, k⟩ | ⟨f, k⟩ <;> rw [e, f, wrap_small (by decide)] <;> grind
theorem at_eq {p q : Pq} : (p.1 = q.1 ∧ p.2 = q.2) = (p = q) := propext ⟨fun h => Prod.ext h.1 h.2, fun h => by rw [h]; exact ⟨rfl, rfl⟩⟩
def mixM (a b : Pq) (n : Int) : Pq := (a.1 + (b.1 - a.1) * mkRat n 255, a.2 + (b.2 - a.2) * mkRat n 255)
theorem pair_eq {a b p : Pq} {n : Int} : (a.1 + (b.1 - a.1) * mkRat n 255 = p.1 ∧ a.2 + (b.2 - a.2) * mkRat n 255 = p.2) = (mixM a b n = p) := at_eq (p := mixM a b n)
theorem mixM_on {a b : Pq} {n : Int} (h0 : 0 ≤ mkRat n 255) (h1 : mkRat n 255 ≤ 1) : OnP (mixM a b n) a b := by
  have e : mixM a b n = mixP a b (mkRat n 255) := by
    unfold mixM mixP adP sbP
    dsimp only
    rw [Rat.mul_comm (b.1 - a.1), Rat.mul_comm (b.2 - a.2)]
  rw [e]
  exact mix_on h0 h1
theorem at_val {a b c d m : Rat} (h : b - a ≠ 0) : c + (a + (b - a) * m - a) / (b - a) * (d - c) = c + (d - c) * m := by
  have e : (a + (b - a) * m - a) / (b - a) * (b - a) = a + (b - a) * m - a := Rat.div_mul_cancel h
  have e2 : (a + (b - a) * m - a) / (b - a) = m := mul_cancel h (by grind)
  rw [e2]
  grind
end Go.Proofs.YtaaehcohmdojgaaGreatDoor

/-
  How four points in a row came in.
-/
namespace Go.Proofs.YtaaehcohmdojgaaGreatDoor
open Go.ChangeShapes Go.WideShapes Go.ChangeAt Go.WideMaps Go.WideElems Go.RowKit Go.Deep

theorem cellsPts4 : Tryz.prog.cellsOf 29 = 24 := by kernel_rfl
theorem pts4Types : Tryz.prog.cellTypes Tryz.prog.depth 29 = some [4, 22, 22, 4, 22, 22, 4, 22, 22, 4, 22, 22, 4, 22, 22, 4, 22, 22, 4, 22, 22, 4, 22, 22] := by kernel_rfl
set_option maxRecDepth 100000 in
theorem opened_pts4 {H : Type} {enc : TypeId × Value → H} {W : World} {r : Reach} {base : Nat} {v : Value} {d : DataW H} {p : List MemPlace} (h : DataW.Trod enc Tryz.prog W 0 (fun _ => true) true 29 v d p) (hv : Value.okWide Tryz.prog W r base 29 v) :
    ∃ x y z u : Rp, v = .agg (x.row ++ y.row ++ z.row ++ u.row).toArray ∧ PtIn W x ∧ PtIn W y ∧ PtIn W z ∧ PtIn W u := by
  simp only [Value.okWide, Tryz.underlying29] at hv
  obtain ⟨cs, rfl, -, ts, hts, -, hall⟩ := hv
  rw [pts4Types] at hts
  simp only [Option.some.injEq] at hts
  subst hts
  obtain ⟨n, hn⟩ := h
  obtain ⟨xs, m, _, _, hl, hxl, hx⟩ := DataW.trod_array Tryz.underlying29 hn
  rw [cellsPts4] at hl
  change cs.toList.length = 24 at hl
  have hg : ∀ i, i < 4 → ∃ x : Rp, ((cs.toList.drop (i * 6)).take 6) = x.row ∧ ((∃ l : List Nat, l.length = x.k1 ∧ R64 W (.slice x.p1 x.k1 x.c1) l) ∧ ∃ l : List Nat, l.length = x.j1 ∧ R64 W (.slice x.q1 x.j1 x.d1) l) ∧ (∃ l : List Nat, l.length = x.k2 ∧ R64 W (.slice x.p2 x.k2 x.c2) l) ∧ ∃ l : List Nat, l.length = x.j2 ∧ R64 W (.slice x.q2 x.j2 x.d2) l := fun i hi => by
    have h1 := hx i hi
    rw [cellsPt] at h1
    change DataW.trod enc Tryz.prog W 0 (fun _ => true) true m 28 ((cs.toList.drop (i * 6)).take 6) = _ at h1
    have h2 : ∃ y, DataW.trod enc Tryz.prog W 0 (fun _ => true) true m 28 ((cs.toList.drop (i * 6)).take 6) = some y := by
      rw [h1]
      exact ⟨_, List.getElem?_eq_getElem (by omega)⟩
    obtain ⟨y, h2⟩ := h2
    exact pt_open h2
  obtain ⟨x0, a0, ⟨b0, c0⟩, e0, f0⟩ := hg 0 (by omega)
  obtain ⟨x1, a1, ⟨b1, c1⟩, e1, f1⟩ := hg 1 (by omega)
  obtain ⟨x2, a2, ⟨b2, c2⟩, e2, f2⟩ := hg 2 (by omega)
  obtain ⟨x3, a3, ⟨b3, c3⟩, e3, f3⟩ := hg 3 (by omega)
  have hcs : cs = (x0.row ++ x1.row ++ x2.row ++ x3.row).toArray := by
    have : cs.toList = x0.row ++ x1.row ++ x2.row ++ x3.row := by
      rw [← a0, ← a1, ← a2, ← a3]
      generalize cs.toList = L at hl ⊢
      have h6 : (L.drop (3 * 6)).take 6 = L.drop 18 := List.take_of_length_le (by rw [List.length_drop, hl]; decide)
      rw [h6]
      have key : ∀ k, L.drop k = (L.drop k).take 6 ++ L.drop (k + 6) := fun k => by
        have := (List.take_append_drop 6 (L.drop k)).symm
        rwa [List.drop_drop] at this
      have h12 := key 12
      have h7 := key 6
      have h0 := key 0
      simp only [Nat.zero_mul, List.drop_zero, Nat.one_mul, Nat.reduceMul, Nat.reduceAdd] at h12 h7 h0 ⊢
      rw [List.append_assoc, ← h12, List.append_assoc, ← h7, ← h0]
    rw [← this]
  subst hcs
  have hc : ∀ (i : Nat) (p : Option Addr) (k c : Nat), (x0.row ++ x1.row ++ x2.row ++ x3.row)[i]? = some (.slice p k c) → ([4, 22, 22, 4, 22, 22, 4, 22, 22, 4, 22, 22, 4, 22, 22, 4, 22, 22, 4, 22, 22, 4, 22, 22] : List TypeId)[i % 24]? = some 22 → PlainP p := fun i p k c hi ht => by
    obtain ⟨u', hu, hok⟩ := hall i _ (by rw [List.getElem?_toArray]; exact hi)
    simp only [List.length_cons, List.length_nil, Nat.zero_add, Nat.reduceAdd] at hu
    rw [ht] at hu
    cases hu
    exact plain_cell hok
  refine ⟨x0, x1, x2, x3, rfl, ⟨⟨⟨hc 1 _ _ _ rfl rfl, b0⟩, hc 2 _ _ _ rfl rfl, c0⟩, ⟨hc 4 _ _ _ rfl rfl, e0⟩, hc 5 _ _ _ rfl rfl, f0⟩, ⟨⟨⟨hc 7 _ _ _ rfl rfl, b1⟩, hc 8 _ _ _ rfl rfl, c1⟩, ⟨hc 10 _ _ _ rfl rfl, e1⟩, hc 11 _ _ _ rfl rfl, f1⟩, ⟨⟨⟨hc 13 _ _ _ rfl rfl, b2⟩, hc 14 _ _ _ rfl rfl, c2⟩, ⟨hc 16 _ _ _ rfl rfl, e2⟩, hc 17 _ _ _ rfl rfl, f2⟩, ⟨⟨hc 19 _ _ _ rfl rfl, b3⟩, hc 20 _ _ _ rfl rfl, c3⟩, ⟨hc 22 _ _ _ rfl rfl, e3⟩, hc 23 _ _ _ rfl rfl, f3⟩
end Go.Proofs.YtaaehcohmdojgaaGreatDoor

/-
  gessolaw07.SegCrosses (printed by gen_sg.py).
-/
namespace Go.Proofs.YtaaehcohmdojgaaGreatDoor
open Go.RowKit Go.Shelf
open Sg

def segCrossesO (a b c d : Rp) (A B C D : Pq) : Out T := .br (![a, b, c, d].all (Rp.ok 6)) (.leaf yes) (.br (decide ((meetL A B C D).length = 0)) (.br (decide (IntKind.i64.wrap (cmpR (crs (sbP B A) (sbP C A)) 0 * cmpR (crs (sbP B A) (sbP D A)) 0) > 0)) (.leaf yes) (.br (decide (IntKind.i64.wrap (cmpR (crs (sbP D C) (sbP A C)) 0 * cmpR (crs (sbP D C) (sbP B C)) 0) > 0)) (.leaf yes) (.br (decide (IntKind.i64.wrap (cmpR (crs (sbP B A) (sbP C A)) 0 * cmpR (crs (sbP B A) (sbP D A)) 0) < 0)) (.br (decide (IntKind.i64.wrap (cmpR (crs (sbP D C) (sbP A C)) 0 * cmpR (crs (sbP D C) (sbP B C)) 0) < 0)) (.leaf no) (.leaf yes)) (.leaf yes)))) (.br (decide ((meetL A B C D).length = 1)) (.br (decide (IntKind.i64.wrap (cmpR (crs (sbP B A) (sbP C A)) 0 * cmpR (crs (sbP B A) (sbP D A)) 0) > 0)) (.leaf no) (.br (decide (IntKind.i64.wrap (cmpR (crs (sbP D C) (sbP A C)) 0 * cmpR (crs (sbP D C) (sbP B C)) 0) > 0)) (.leaf no) (.br (decide (IntKind.i64.wrap (cmpR (crs (sbP B A) (sbP C A)) 0 * cmpR (crs (sbP B A) (sbP D A)) 0) < 0)) (.br (decide (IntKind.i64.wrap (cmpR (crs (sbP D C) (sbP A C)) 0 * cmpR (crs (sbP D C) (sbP B C)) 0) < 0)) (.br (decide ((at0 (meetL A B C D)).fst = A.fst ∧ (at0 (meetL A B C D)).snd = A.snd)) (.leaf no) (.br (decide ((at0 (meetL A B C D)).fst = B.fst ∧ (at0 (meetL A B C D)).snd = B.snd)) (.leaf no) (.br (decide ((at0 (meetL A B C D)).fst = C.fst ∧ (at0 (meetL A B C D)).snd = C.snd)) (.leaf no) (.br (decide ((at0 (meetL A B C D)).fst = D.fst ∧ (at0 (meetL A B C D)).snd = D.snd)) (.leaf no) (.leaf yes))))) (.leaf yes)) (.leaf yes)))) (.br (decide (IntKind.i64.wrap (cmpR (crs (sbP B A) (sbP C A)) 0 * cmpR (crs (sbP B A) (sbP D A)) 0) > 0)) (.leaf no) (.br (decide (IntKind.i64.wrap (cmpR (crs (sbP D C) (sbP A C)) 0 * cmpR (crs (sbP D C) (sbP B C)) 0) > 0)) (.leaf no) (.br (decide (IntKind.i64.wrap (cmpR (crs (sbP B A) (sbP C A)) 0 * cmpR (crs (sbP B A) (sbP D A)) 0) < 0)) (.br (decide (IntKind.i64.wrap (cmpR (crs (sbP D C) (sbP A C)) 0 * cmpR (crs (sbP D C) (sbP B C)) 0) < 0)) (.leaf no) (.leaf yes)) (.leaf yes))))))
set_option maxRecDepth 100000 in
theorem segCrosses_t1 (a b c d : Rp) (A B C D : Pq) : (exFn (envOf consG7) Tryz.f7 [a.v A.1 A.2 6 ++ b.v B.1 B.2 6 ++ c.v C.1 C.2 6 ++ d.v D.1 D.2 6]).clean = segCrossesO a b c d A B C D := by kernel_rfl
set_option maxRecDepth 100000 in
theorem segCrosses_t0 (a b c d : Rp) : (exFn (envOf consG7) Tryz.f7 [a.sv ++ b.sv ++ c.sv ++ d.sv]).clean = .br (![a, b, c, d].all (Rp.ok 6)) (.leaf yes) (.fail) := by kernel_rfl
set_option maxHeartbeats 1000000 in
theorem segCrosses_h1 (a b c d : Rp) (A B C D : Pq) (hF : [a, b, c, d].all (Rp.ok 6) = true) : (segCrossesO a b c d A B C D).holds (· = yes) := by
  unfold segCrossesO
  simp only [Out.holds, hF, decide_eq_true_eq, decide_eq_false_iff_not, sg_pos, sg_neg, no_yes, Bool.not_true, Bool.false_eq_true, true_and, true_imp_iff, imp_false, and_true, implies_true, at_eq]
  by_cases h1 : 0 < crs (sbP B A) (sbP C A) * crs (sbP B A) (sbP D A)
  · have hL := apart_meet h1
    simp [hL, h1]
  · by_cases h2 : 0 < crs (sbP D C) (sbP A C) * crs (sbP D C) (sbP B C)
    · have hL := apart_meet2 h2
      simp [hL, h1, h2]
    · by_cases h3 : crs (sbP B A) (sbP C A) * crs (sbP B A) (sbP D A) < 0 ∧ crs (sbP D C) (sbP A C) * crs (sbP D C) (sbP B C) < 0
      · obtain ⟨x, hL, e1, e2, e3, e4⟩ := cross_meet h3.1 h3.2
        simp [hL, h1, h2, h3, at0, e1, e2, e3, e4]
      · simp only [h1, h2, not_false_eq_true, true_imp_iff, true_and]
        grind
theorem segCrosses_any (a b c d : Rp) (W : World) (ha : PtIn W a) (hb : PtIn W b) (hc : PtIn W c) (hd : PtIn W d) : Calls Tryz.prog 7 #[.agg (a.row ++ b.row ++ c.row ++ d.row).toArray] W (Makes W fun v _ => v = .bool true) := by
  have hl : (a.row ++ b.row ++ c.row ++ d.row).length ≠ 1 := by simp [Rp.row]
  by_cases hf : [a, b, c, d].all (Rp.ok 6) = true
  · have hk : a.ok 6 = true ∧ b.ok 6 = true ∧ c.ok 6 = true ∧ d.ok 6 = true := by
      simp only [List.all_cons, List.all_nil, Bool.and_eq_true, Bool.and_true] at hf
      exact hf
    obtain ⟨x0, y0, k0⟩ := ha.ps hk.1
    obtain ⟨x1, y1, k1⟩ := hb.ps hk.2.1
    obtain ⟨x2, y2, k2⟩ := hc.ps hk.2.2.1
    obtain ⟨x3, y3, k3⟩ := hd.ps hk.2.2.2
    exact law_calls (envOf_ok consG7_ok) Tryz.func7 (segCrosses_t1 a b c d (x0, y0) (x1, y1) (x2, y2) (x3, y3)) (segCrosses_h1 a b c d (x0, y0) (x1, y1) (x2, y2) (x3, y3) hf)
      ⟨_, _, rfl, has_row (V.rel_append (V.rel_append (V.rel_append (Rp.v_rel k0) (Rp.v_rel k1)) (Rp.v_rel k2)) (Rp.v_rel k3)) hl, rfl⟩
  · refine law_calls (envOf_ok consG7_ok) Tryz.func7 (segCrosses_t0 a b c d) ?_
      ⟨_, _, rfl, has_row (V.rel_append (V.rel_append (V.rel_append a.sv_rel b.sv_rel) c.sv_rel) d.sv_rel) hl, rfl⟩
    exact ⟨fun _ => rfl, fun h1 => (hf (by simpa using h1)).elim⟩
end Go.Proofs.YtaaehcohmdojgaaGreatDoor

/-
  gessolaw07.SegBoth (printed by gen_sg.py).
-/
namespace Go.Proofs.YtaaehcohmdojgaaGreatDoor
open Go.RowKit Go.Shelf
open Sg

def segBothO (a b c d : Rp) (A B C D : Pq) (N : Int) : Out T := .br (![a, b, c, d].all (Rp.ok 6)) (.leaf yes) (.br (decide ((meetL A B C D).length = 0)) (.br (decide ((meetL A B D C).length = 0)) (.br (decide ((meetL C D A B).length = 0)) (.br (decide ((meetL B A C D).length = 0)) (.need ((fitsB N && fitsB 255 && decide (0 < 255)) = true) (.br (!decide (OnP (mixM A B N) C D)) (.leaf yes) (.leaf no))) (.br (decide ((meetL B A C D).length = 1)) (.leaf no) (.leaf no))) (.br (decide ((meetL C D A B).length = 1)) (.leaf no) (.leaf no))) (.br (decide ((meetL A B D C).length = 1)) (.leaf no) (.leaf no))) (.br (decide ((meetL A B C D).length = 1)) (.br (!decide (OnP (at0 (meetL A B C D)) A B)) (.leaf no) (.br (!decide (OnP (at0 (meetL A B C D)) C D)) (.leaf no) (.br (decide ((meetL A B D C).length = 0)) (.leaf no) (.br (decide ((meetL A B D C).length = 1)) (.br (decide ((at0 (meetL A B C D)).fst = (at0 (meetL A B D C)).fst)) (.br (!decide ((at0 (meetL A B C D)).snd = (at0 (meetL A B D C)).snd)) (.leaf no) (.br (decide ((meetL C D A B).length = 0)) (.leaf no) (.br (decide ((meetL C D A B).length = 1)) (.br (decide ((meetL B A C D).length = 0)) (.leaf no) (.br (decide ((meetL B A C D).length = 1)) (.need ((fitsB N && fitsB 255 && decide (0 < 255)) = true) (.br (!decide (OnP (mixM A B N) C D)) (.leaf yes) (.br (decide (A.fst + (B.fst - A.fst) * mkRat N 255 = (at0 (meetL A B C D)).fst ∧ A.snd + (B.snd - A.snd) * mkRat N 255 = (at0 (meetL A B C D)).snd)) (.leaf yes) (.leaf no)))) (.leaf no))) (.leaf no)))) (.leaf no)) (.leaf no))))) (.br (!decide (OnP (at0 (meetL A B C D)) A B)) (.leaf no) (.br (!decide (OnP (at0 (meetL A B C D)) C D)) (.leaf no) (.br (!decide (OnP (at1 (meetL A B C D)) A B)) (.leaf no) (.br (!decide (OnP (at1 (meetL A B C D)) C D)) (.leaf no) (.br (decide ((at0 (meetL A B C D)).fst = (at1 (meetL A B C D)).fst ∧ (at0 (meetL A B C D)).snd = (at1 (meetL A B C D)).snd)) (.leaf no) (.br (decide ((meetL A B D C).length = 0)) (.leaf no) (.br (decide ((meetL A B D C).length = 1)) (.leaf no) (.br (decide ((at0 (meetL A B C D)).fst = (at0 (meetL A B D C)).fst)) (.br (!decide ((at0 (meetL A B C D)).snd = (at0 (meetL A B D C)).snd)) (.leaf no) (.br (decide ((at1 (meetL A B C D)).fst = (at1 (meetL A B D C)).fst)) (.br (!decide ((at1 (meetL A B C D)).snd = (at1 (meetL A B D C)).snd)) (.leaf no) (.br (decide ((meetL C D A B).length = 0)) (.leaf no) (.br (decide ((meetL C D A B).length = 1)) (.leaf no) (.br (decide ((meetL B A C D).length = 0)) (.leaf no) (.br (decide ((meetL B A C D).length = 1)) (.leaf no) (.need ((fitsB N && fitsB 255 && decide (0 < 255)) = true) (.br (!decide (OnP (mixM A B N) C D)) (.leaf yes) (.br (decide (OnP (mixM A B N) (at0 (meetL A B C D)) (at1 (meetL A B C D)))) (.leaf yes) (.leaf no))))))))) (.leaf no))) (.leaf no)))))))))))
set_option maxRecDepth 100000 in
theorem segBoth_t1 (a b c d : Rp) (A B C D : Pq) (t : Nat) : (exFn (envOf consG8) Tryz.f5 [a.v A.1 A.2 6 ++ b.v B.1 B.2 6 ++ c.v C.1 C.2 6 ++ d.v D.1 D.2 6, [.sym (.int .u8 (t : Nat))]]).clean = segBothO a b c d A B C D (IntKind.i64.wrap (t : Nat)) := by kernel_rfl
set_option maxRecDepth 100000 in
theorem segBoth_t0 (a b c d : Rp) (t : Nat) : (exFn (envOf consG8) Tryz.f5 [a.sv ++ b.sv ++ c.sv ++ d.sv, [.sym (.int .u8 (t : Nat))]]).clean = .br (![a, b, c, d].all (Rp.ok 6)) (.leaf yes) (.fail) := by kernel_rfl
set_option maxHeartbeats 1000000 in
theorem segBoth_h1 (a b c d : Rp) (A B C D : Pq) (N : Int) (hF : [a, b, c, d].all (Rp.ok 6) = true) (hN : (fitsB N && fitsB 255 && decide (0 < 255)) = true) (h0 : 0 ≤ mkRat N 255) (h1 : mkRat N 255 ≤ 1) : (segBothO a b c d A B C D N).holds (· = yes) := by
  unfold segBothO
  have hm : OnP (mixM A B N) A B := mixM_on h0 h1
  have e2 : meetL A B D C = meetL A B C D := meet_swap2
  have e3 : (meetL C D A B).length = (meetL A B C D).length := len_both
  have e4 : (meetL B A C D).length = (meetL A B C D).length := len_swap1
  simp only [Out.holds, hF, hN, e2, e3, e4, at_eq, pair_eq, decide_eq_true_eq, decide_eq_false_iff_not, no_yes, Bool.not_true, Bool.false_eq_true, true_and, true_imp_iff, imp_false, implies_true, Bool.not_eq_true', Bool.not_eq_false']
  rcases meet_meets A B C D with ⟨hL, hc⟩ | ⟨p, hL, hc⟩ | ⟨p, q, hL, hne, hf, hc⟩
  · have h2 : ¬ OnP (mixM A B N) C D := fun h => hc _ ⟨hm, h⟩
    simp [hL, h2]
  · have h2 := (hc p).2 rfl
    have h3 : OnP (mixM A B N) C D → mixM A B N = p := fun h => (hc _).1 ⟨hm, h⟩
    simp [hL, at0, h2.1, h2.2]
    exact h3
  · have h2 := (hc p).2 (on_left _ _)
    have h3 := (hc q).2 (on_right _ _)
    have h4 : OnP (mixM A B N) C D → OnP (mixM A B N) p q := fun h => (hc _).1 ⟨hm, h⟩
    simp [hL, at0, at1, h2.1, h2.2, h3.1, h3.2, hne]
    exact h4
theorem segBoth_any (a b c d : Rp) (t : Nat) (ht : t < 256) (W : World) (ha : PtIn W a) (hb : PtIn W b) (hc : PtIn W c) (hd : PtIn W d) : Calls Tryz.prog 5 #[.agg (a.row ++ b.row ++ c.row ++ d.row).toArray, .int .u8 (t : Nat)] W (Makes W fun v _ => v = .bool true) := by
  have hl : (a.row ++ b.row ++ c.row ++ d.row).length ≠ 1 := by simp [Rp.row]
  by_cases hf : [a, b, c, d].all (Rp.ok 6) = true
  · have hk : a.ok 6 = true ∧ b.ok 6 = true ∧ c.ok 6 = true ∧ d.ok 6 = true := by
      simp only [List.all_cons, List.all_nil, Bool.and_eq_true, Bool.and_true] at hf
      exact hf
    obtain ⟨x0, y0, k0⟩ := ha.ps hk.1
    obtain ⟨x1, y1, k1⟩ := hb.ps hk.2.1
    obtain ⟨x2, y2, k2⟩ := hc.ps hk.2.2.1
    obtain ⟨x3, y3, k3⟩ := hd.ps hk.2.2.2
    have hw : IntKind.i64.wrap ((t : Nat) : Int) = (t : Nat) := IntWalk.i64_in _ (by omega)
    obtain ⟨b0, b1⟩ := byte_part ht
    exact law_calls (envOf_ok consG8_ok) Tryz.func5 (segBoth_t1 a b c d (x0, y0) (x1, y1) (x2, y2) (x3, y3) t) (segBoth_h1 a b c d (x0, y0) (x1, y1) (x2, y2) (x3, y3) _ hf (by rw [hw]; simp [fitsB]; omega) (by rw [hw]; exact b0) (by rw [hw]; exact b1))
      ⟨_, _, rfl, has_row (V.rel_append (V.rel_append (V.rel_append (Rp.v_rel k0) (Rp.v_rel k1)) (Rp.v_rel k2)) (Rp.v_rel k3)) hl, _, _, rfl, one_of rfl, rfl⟩
  · refine law_calls (envOf_ok consG8_ok) Tryz.func5 (segBoth_t0 a b c d t) ?_
      ⟨_, _, rfl, has_row (V.rel_append (V.rel_append (V.rel_append a.sv_rel b.sv_rel) c.sv_rel) d.sv_rel) hl, _, _, rfl, one_of rfl, rfl⟩
    exact ⟨fun _ => rfl, fun h1 => (hf (by simpa using h1)).elim⟩
end Go.Proofs.YtaaehcohmdojgaaGreatDoor

/-
  gessolaw07.SegAt (printed by gen_sg.py).
-/
namespace Go.Proofs.YtaaehcohmdojgaaGreatDoor
open Go.RowKit Go.Shelf
open Sg

def segAtO (a b : Rp) (A B : Pq) (N : Int) : Out T := .br (![a, b].all (Rp.ok 6)) (.leaf yes) (.need ((fitsB N && fitsB 255 && decide (0 < 255)) = true) (.br (decide (B.snd - A.snd = 0)) (.br (decide (B.fst - A.fst = 0)) (.br (false == (cmpR A.snd B.snd == 0)) (.leaf no) (.br (false == (cmpR A.fst B.fst == 0)) (.leaf no) (.br (decide (OnP (mixM A B N) A B)) (.leaf yes) (.leaf no)))) (.br (!decide (Btw (A.fst + (B.fst - A.fst) * mkRat N 255) A.fst B.fst)) (.br (false == (cmpR A.snd B.snd == 0)) (.leaf no) (.br (false == (cmpR A.fst B.fst == 0)) (.leaf no) (.br (decide (OnP (mixM A B N) A B)) (.leaf yes) (.leaf no)))) (.br (false == (cmpR A.snd B.snd == 0)) (.leaf no) (.br (true == (cmpR A.fst B.fst == 0)) (.leaf no) (.br (cmpR (A.snd + (A.fst + (B.fst - A.fst) * mkRat N 255 - A.fst) / (B.fst - A.fst) * (B.snd - A.snd)) (A.snd + (B.snd - A.snd) * mkRat N 255) == 0) (.br (decide (OnP (mixM A B N) A B)) (.leaf yes) (.leaf no)) (.leaf no)))))) (.br (!decide (Btw (A.snd + (B.snd - A.snd) * mkRat N 255) A.snd B.snd)) (.br (decide (B.fst - A.fst = 0)) (.br (false == (cmpR A.snd B.snd == 0)) (.leaf no) (.br (false == (cmpR A.fst B.fst == 0)) (.leaf no) (.br (decide (OnP (mixM A B N) A B)) (.leaf yes) (.leaf no)))) (.br (!decide (Btw (A.fst + (B.fst - A.fst) * mkRat N 255) A.fst B.fst)) (.br (false == (cmpR A.snd B.snd == 0)) (.leaf no) (.br (false == (cmpR A.fst B.fst == 0)) (.leaf no) (.br (decide (OnP (mixM A B N) A B)) (.leaf yes) (.leaf no)))) (.br (false == (cmpR A.snd B.snd == 0)) (.leaf no) (.br (true == (cmpR A.fst B.fst == 0)) (.leaf no) (.br (cmpR (A.snd + (A.fst + (B.fst - A.fst) * mkRat N 255 - A.fst) / (B.fst - A.fst) * (B.snd - A.snd)) (A.snd + (B.snd - A.snd) * mkRat N 255) == 0) (.br (decide (OnP (mixM A B N) A B)) (.leaf yes) (.leaf no)) (.leaf no)))))) (.br (decide (B.fst - A.fst = 0)) (.br (true == (cmpR A.snd B.snd == 0)) (.leaf no) (.br (false == (cmpR A.fst B.fst == 0)) (.leaf no) (.br (cmpR (A.fst + (A.snd + (B.snd - A.snd) * mkRat N 255 - A.snd) / (B.snd - A.snd) * (B.fst - A.fst)) (A.fst + (B.fst - A.fst) * mkRat N 255) == 0) (.br (decide (OnP (mixM A B N) A B)) (.leaf yes) (.leaf no)) (.leaf no)))) (.br (!decide (Btw (A.fst + (B.fst - A.fst) * mkRat N 255) A.fst B.fst)) (.br (true == (cmpR A.snd B.snd == 0)) (.leaf no) (.br (false == (cmpR A.fst B.fst == 0)) (.leaf no) (.br (cmpR (A.fst + (A.snd + (B.snd - A.snd) * mkRat N 255 - A.snd) / (B.snd - A.snd) * (B.fst - A.fst)) (A.fst + (B.fst - A.fst) * mkRat N 255) == 0) (.br (decide (OnP (mixM A B N) A B)) (.leaf yes) (.leaf no)) (.leaf no)))) (.br (true == (cmpR A.snd B.snd == 0)) (.leaf no) (.br (true == (cmpR A.fst B.fst == 0)) (.leaf no) (.br (cmpR (A.fst + (A.snd + (B.snd - A.snd) * mkRat N 255 - A.snd) / (B.snd - A.snd) * (B.fst - A.fst)) (A.fst + (B.fst - A.fst) * mkRat N 255) == 0) (.br (cmpR (A.snd + (A.fst + (B.fst - A.fst) * mkRat N 255 - A.fst) / (B.fst - A.fst) * (B.snd - A.snd)) (A.snd + (B.snd - A.snd) * mkRat N 255) == 0) (.br (decide (OnP (mixM A B N) A B)) (.leaf yes) (.leaf no)) (.leaf no)) (.leaf no)))))))))
set_option maxRecDepth 100000 in
theorem segAt_t1 (a b : Rp) (A B : Pq) (t : Nat) : (exFn (envOf consG7) Tryz.f6 [a.v A.1 A.2 6, b.v B.1 B.2 6, [.sym (.int .u8 (t : Nat))]]).clean = segAtO a b A B (IntKind.i64.wrap (t : Nat)) := by kernel_rfl
set_option maxRecDepth 100000 in
theorem segAt_t0 (a b : Rp) (t : Nat) : (exFn (envOf consG7) Tryz.f6 [a.sv, b.sv, [.sym (.int .u8 (t : Nat))]]).clean = .br (![a, b].all (Rp.ok 6)) (.leaf yes) (.need ((fitsB (IntKind.i64.wrap (t : Nat)) && fitsB 255 && decide (0 < 255)) = true) (.fail)) := by kernel_rfl
set_option maxHeartbeats 1000000 in
theorem segAt_h1 (a b : Rp) (A B : Pq) (N : Int) (hF : [a, b].all (Rp.ok 6) = true) (hN : (fitsB N && fitsB 255 && decide (0 < 255)) = true) (h0 : 0 ≤ mkRat N 255) (h1 : mkRat N 255 ≤ 1) : (segAtO a b A B N).holds (· = yes) := by
  unfold segAtO
  have hm : OnP (mixM A B N) A B := mixM_on h0 h1
  have hx : Btw (A.1 + (B.1 - A.1) * mkRat N 255) A.1 B.1 := hm.2.1
  have hy : Btw (A.2 + (B.2 - A.2) * mkRat N 255) A.2 B.2 := hm.2.2
  have k1 : B.1 - A.1 ≠ 0 → A.2 + (A.1 + (B.1 - A.1) * mkRat N 255 - A.1) / (B.1 - A.1) * (B.2 - A.2) = A.2 + (B.2 - A.2) * mkRat N 255 := at_val
  have k2 : B.2 - A.2 ≠ 0 → A.1 + (A.2 + (B.2 - A.2) * mkRat N 255 - A.2) / (B.2 - A.2) * (B.1 - A.1) = A.1 + (B.1 - A.1) * mkRat N 255 := at_val
  simp only [Out.holds, hF, hN, hm, hx, hy, cmp_dec, decide_true, decide_eq_true_eq, decide_eq_false_iff_not, no_yes, Bool.not_true, Bool.false_eq_true, true_and, true_imp_iff, imp_false, implies_true]
  have z1 : B.1 - A.1 = 0 ↔ A.1 = B.1 := by grind
  have z2 : B.2 - A.2 = 0 ↔ A.2 = B.2 := by grind
  by_cases e1 : A.1 = B.1 <;> by_cases e2 : A.2 = B.2
  · have t1 := eq_true e1
    have t2 := eq_true e2
    have u1 := eq_true (z1.2 e1)
    have u2 := eq_true (z2.2 e2)
    clear z1 z2 e1 e2
    simp [t1, t2, u1, u2]
  · have v2 := k2 (fun h => e2 (z2.1 h))
    have t1 := eq_true e1
    have t2 := eq_false e2
    have u1 := eq_true (z1.2 e1)
    have u2 := eq_false fun h => e2 (z2.1 h)
    clear z1 z2 e1 e2
    simp [t1, t2, u1, u2, v2]
  · have v1 := k1 (fun h => e1 (z1.1 h))
    have t1 := eq_false e1
    have t2 := eq_true e2
    have u1 := eq_false fun h => e1 (z1.1 h)
    have u2 := eq_true (z2.2 e2)
    clear z1 z2 e1 e2
    simp [t1, t2, u1, u2, v1]
  · have v1 := k1 (fun h => e1 (z1.1 h))
    have v2 := k2 (fun h => e2 (z2.1 h))
    have t1 := eq_false e1
    have t2 := eq_false e2
    have u1 := eq_false fun h => e1 (z1.1 h)
    have u2 := eq_false fun h => e2 (z2.1 h)
    clear z1 z2 e1 e2
    simp [t1, t2, u1, u2, v1, v2]
theorem segAt_any (a b : Rp) (t : Nat) (ht : t < 256) (W : World) (ha : PtIn W a) (hb : PtIn W b) : Calls Tryz.prog 6 #[.agg a.row.toArray, .agg b.row.toArray, .int .u8 (t : Nat)] W (Makes W fun v _ => v = .bool true) := by
  have hl : ∀ (x : Rp), x.row.length ≠ 1 := fun x => by simp [Rp.row]
  by_cases hf : [a, b].all (Rp.ok 6) = true
  · have hk : a.ok 6 = true ∧ b.ok 6 = true := by
      simp only [List.all_cons, List.all_nil, Bool.and_eq_true, Bool.and_true] at hf
      exact hf
    obtain ⟨x0, y0, k0⟩ := ha.ps hk.1
    obtain ⟨x1, y1, k1⟩ := hb.ps hk.2
    have hw : IntKind.i64.wrap ((t : Nat) : Int) = (t : Nat) := IntWalk.i64_in _ (by omega)
    obtain ⟨b0, b1⟩ := byte_part ht
    exact law_calls (envOf_ok consG7_ok) Tryz.func6 (segAt_t1 a b (x0, y0) (x1, y1) t) (segAt_h1 a b (x0, y0) (x1, y1) _ hf (by rw [hw]; simp [fitsB]; omega) (by rw [hw]; exact b0) (by rw [hw]; exact b1))
      ⟨_, _, rfl, has_row (Rp.v_rel k0) (hl _), _, _, rfl, has_row (Rp.v_rel k1) (hl _), _, _, rfl, one_of rfl, rfl⟩
  · refine law_calls (envOf_ok consG7_ok) Tryz.func6 (segAt_t0 a b t) ?_
      ⟨_, _, rfl, has_row a.sv_rel (hl _), _, _, rfl, has_row b.sv_rel (hl _), _, _, rfl, one_of rfl, rfl⟩
    exact ⟨fun _ => rfl, fun h1 => (hf (by simpa using h1)).elim⟩
end Go.Proofs.YtaaehcohmdojgaaGreatDoor
