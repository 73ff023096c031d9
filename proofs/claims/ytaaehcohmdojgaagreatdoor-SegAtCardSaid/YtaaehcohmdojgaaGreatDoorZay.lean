/-
  Maps: six fractions (printed by gen_maa.py).
-/
import Derived.Test.YtaaehcohmdojgaaGreatDoorZat
import Derived.Test.YtaaehcohmdojgaaGreatDoorZax
import Derived.Test.YtaaehcohmdojgaaGreatDoorZas
import Derived.Test.YtaaehcohmdojgaaGreatDoorZan
import Derived.Test.YtaaehcohmdojgaaGreatDoorZaa
namespace Go.Proofs.YtaaehcohmdojgaaGreatDoor
open Go.RowKit Go.Shelf

def MS (k : Nat) (w : World) (v : Value) (a b c d e f : Rat) : Prop := ∃ s1 u1 d1 s2 u2 d2 s3 u3 d3 s4 u4 d4 s5 u5 d5 s6 u6 d6, v = .agg #[s1, u1, d1, s2, u2, d2, s3, u3, d3, s4, u4, d4, s5, u5, d5, s6, u6, d6] ∧ RS k w (.agg #[s1, u1, d1]) a ∧ RS k w (.agg #[s2, u2, d2]) b ∧ RS k w (.agg #[s3, u3, d3]) c ∧ RS k w (.agg #[s4, u4, d4]) d ∧ RS k w (.agg #[s5, u5, d5]) e ∧ RS k w (.agg #[s6, u6, d6]) f
def MN (k : Nat) (w : World) (v : Value) (a b c d e f : Rat) : Prop := ∃ s1 u1 d1 s2 u2 d2 s3 u3 d3 s4 u4 d4 s5 u5 d5 s6 u6 d6, v = .agg #[s1, u1, d1, s2, u2, d2, s3, u3, d3, s4, u4, d4, s5, u5, d5, s6, u6, d6] ∧ RN k w (.agg #[s1, u1, d1]) a ∧ RN k w (.agg #[s2, u2, d2]) b ∧ RN k w (.agg #[s3, u3, d3]) c ∧ RN k w (.agg #[s4, u4, d4]) d ∧ RN k w (.agg #[s5, u5, d5]) e ∧ RN k w (.agg #[s6, u6, d6]) f
section
variable {w w' : World} {v : Value} {k : Nat} {a b c d e f : Rat}
theorem MS.bel (h : MS k w v a b c d e f) (hb : Bel w w') : MS k w' v a b c d e f := by
  obtain ⟨s1, u1, d1, s2, u2, d2, s3, u3, d3, s4, u4, d4, s5, u5, d5, s6, u6, d6, h0, h1, h2, h3, h4, h5, h6⟩ := h
  exact ⟨s1, u1, d1, s2, u2, d2, s3, u3, d3, s4, u4, d4, s5, u5, d5, s6, u6, d6, h0, h1.bel hb, h2.bel hb, h3.bel hb, h4.bel hb, h5.bel hb, h6.bel hb⟩
theorem MS.lim (h : MS k w v a b c d e f) (hl : Lim w w') : MS k w' v a b c d e f := by
  obtain ⟨s1, u1, d1, s2, u2, d2, s3, u3, d3, s4, u4, d4, s5, u5, d5, s6, u6, d6, h0, h1, h2, h3, h4, h5, h6⟩ := h
  exact ⟨s1, u1, d1, s2, u2, d2, s3, u3, d3, s4, u4, d4, s5, u5, d5, s6, u6, d6, h0, h1.lim hl, h2.lim hl, h3.lim hl, h4.lim hl, h5.lim hl, h6.lim hl⟩
theorem MS.mono (h : MS k w v a b c d e f) {m : Nat} (hm : k ≤ m) : MS m w v a b c d e f := by
  obtain ⟨s1, u1, d1, s2, u2, d2, s3, u3, d3, s4, u4, d4, s5, u5, d5, s6, u6, d6, h0, h1, h2, h3, h4, h5, h6⟩ := h
  exact ⟨s1, u1, d1, s2, u2, d2, s3, u3, d3, s4, u4, d4, s5, u5, d5, s6, u6, d6, h0, h1.mono hm, h2.mono hm, h3.mono hm, h4.mono hm, h5.mono hm, h6.mono hm⟩
theorem MN.bel (h : MN k w v a b c d e f) (hb : Bel w w') : MN k w' v a b c d e f := by
  obtain ⟨s1, u1, d1, s2, u2, d2, s3, u3, d3, s4, u4, d4, s5, u5, d5, s6, u6, d6, h0, h1, h2, h3, h4, h5, h6⟩ := h
  exact ⟨s1, u1, d1, s2, u2, d2, s3, u3, d3, s4, u4, d4, s5, u5, d5, s6, u6, d6, h0, h1.bel hb, h2.bel hb, h3.bel hb, h4.bel hb, h5.bel hb, h6.bel hb⟩
theorem MN.lim (h : MN k w v a b c d e f) (hl : Lim w w') : MN k w' v a b c d e f := by
  obtain ⟨s1, u1, d1, s2, u2, d2, s3, u3, d3, s4, u4, d4, s5, u5, d5, s6, u6, d6, h0, h1, h2, h3, h4, h5, h6⟩ := h
  exact ⟨s1, u1, d1, s2, u2, d2, s3, u3, d3, s4, u4, d4, s5, u5, d5, s6, u6, d6, h0, h1.lim hl, h2.lim hl, h3.lim hl, h4.lim hl, h5.lim hl, h6.lim hl⟩
theorem MN.mono (h : MN k w v a b c d e f) {m : Nat} (hm : k ≤ m) : MN m w v a b c d e f := by
  obtain ⟨s1, u1, d1, s2, u2, d2, s3, u3, d3, s4, u4, d4, s5, u5, d5, s6, u6, d6, h0, h1, h2, h3, h4, h5, h6⟩ := h
  exact ⟨s1, u1, d1, s2, u2, d2, s3, u3, d3, s4, u4, d4, s5, u5, d5, s6, u6, d6, h0, h1.mono hm, h2.mono hm, h3.mono hm, h4.mono hm, h5.mono hm, h6.mono hm⟩
theorem MS.parts (h : MS k w v a b c d e f) : ∃ s1 p1 k1 c1 q1 j1 d1 s2 p2 k2 c2 q2 j2 d2 s3 p3 k3 c3 q3 j3 d3 s4 p4 k4 c4 q4 j4 d4 s5 p5 k5 c5 q5 j5 d5 s6 p6 k6 c6 q6 j6 d6, v = .agg #[.bool s1, .slice p1 k1 c1, .slice q1 j1 d1, .bool s2, .slice p2 k2 c2, .slice q2 j2 d2, .bool s3, .slice p3 k3 c3, .slice q3 j3 d3, .bool s4, .slice p4 k4 c4, .slice q4 j4 d4, .bool s5, .slice p5 k5 c5, .slice q5 j5 d5, .bool s6, .slice p6 k6 c6, .slice q6 j6 d6] ∧ RS k w (.agg #[.bool s1, .slice p1 k1 c1, .slice q1 j1 d1]) a ∧ RS k w (.agg #[.bool s2, .slice p2 k2 c2, .slice q2 j2 d2]) b ∧ RS k w (.agg #[.bool s3, .slice p3 k3 c3, .slice q3 j3 d3]) c ∧ RS k w (.agg #[.bool s4, .slice p4 k4 c4, .slice q4 j4 d4]) d ∧ RS k w (.agg #[.bool s5, .slice p5 k5 c5, .slice q5 j5 d5]) e ∧ RS k w (.agg #[.bool s6, .slice p6 k6 c6, .slice q6 j6 d6]) f := by
  obtain ⟨s1, u1, d1, s2, u2, d2, s3, u3, d3, s4, u4, d4, s5, u5, d5, s6, u6, d6, rfl, h1, h2, h3, h4, h5, h6⟩ := h
  obtain ⟨s1, p1, k1, c1, q1, j1, d1, e1⟩ := h1.parts
  simp only [Value.agg.injEq, Array.mk.injEq, List.cons.injEq, and_true] at e1
  obtain ⟨rfl, rfl, rfl⟩ := e1
  obtain ⟨s2, p2, k2, c2, q2, j2, d2, e2⟩ := h2.parts
  simp only [Value.agg.injEq, Array.mk.injEq, List.cons.injEq, and_true] at e2
  obtain ⟨rfl, rfl, rfl⟩ := e2
  obtain ⟨s3, p3, k3, c3, q3, j3, d3, e3⟩ := h3.parts
  simp only [Value.agg.injEq, Array.mk.injEq, List.cons.injEq, and_true] at e3
  obtain ⟨rfl, rfl, rfl⟩ := e3
  obtain ⟨s4, p4, k4, c4, q4, j4, d4, e4⟩ := h4.parts
  simp only [Value.agg.injEq, Array.mk.injEq, List.cons.injEq, and_true] at e4
  obtain ⟨rfl, rfl, rfl⟩ := e4
  obtain ⟨s5, p5, k5, c5, q5, j5, d5, e5⟩ := h5.parts
  simp only [Value.agg.injEq, Array.mk.injEq, List.cons.injEq, and_true] at e5
  obtain ⟨rfl, rfl, rfl⟩ := e5
  obtain ⟨s6, p6, k6, c6, q6, j6, d6, e6⟩ := h6.parts
  simp only [Value.agg.injEq, Array.mk.injEq, List.cons.injEq, and_true] at e6
  obtain ⟨rfl, rfl, rfl⟩ := e6
  exact ⟨s1, p1, k1, c1, q1, j1, d1, s2, p2, k2, c2, q2, j2, d2, s3, p3, k3, c3, q3, j3, d3, s4, p4, k4, c4, q4, j4, d4, s5, p5, k5, c5, q5, j5, d5, s6, p6, k6, c6, q6, j6, d6, rfl, h1, h2, h3, h4, h5, h6⟩
theorem MS.split {z0 z1 z2 z3 z4 z5 z6 z7 z8 z9 z10 z11 z12 z13 z14 z15 z16 z17 : Value} (h : MS k w (.agg #[z0, z1, z2, z3, z4, z5, z6, z7, z8, z9, z10, z11, z12, z13, z14, z15, z16, z17]) a b c d e f) : RS k w (.agg #[z0, z1, z2]) a ∧ RS k w (.agg #[z3, z4, z5]) b ∧ RS k w (.agg #[z6, z7, z8]) c ∧ RS k w (.agg #[z9, z10, z11]) d ∧ RS k w (.agg #[z12, z13, z14]) e ∧ RS k w (.agg #[z15, z16, z17]) f := by
  obtain ⟨s1, u1, d1, s2, u2, d2, s3, u3, d3, s4, u4, d4, s5, u5, d5, s6, u6, d6, h0, h1, h2, h3, h4, h5, h6⟩ := h
  simp only [Value.agg.injEq, Array.mk.injEq, List.cons.injEq, and_true] at h0
  obtain ⟨rfl, rfl, rfl, rfl, rfl, rfl, rfl, rfl, rfl, rfl, rfl, rfl, rfl, rfl, rfl, rfl, rfl, rfl⟩ := h0
  exact ⟨h1, h2, h3, h4, h5, h6⟩
theorem MN.parts (h : MN k w v a b c d e f) : ∃ s1 p1 k1 c1 q1 j1 d1 s2 p2 k2 c2 q2 j2 d2 s3 p3 k3 c3 q3 j3 d3 s4 p4 k4 c4 q4 j4 d4 s5 p5 k5 c5 q5 j5 d5 s6 p6 k6 c6 q6 j6 d6, v = .agg #[.bool s1, .slice p1 k1 c1, .slice q1 j1 d1, .bool s2, .slice p2 k2 c2, .slice q2 j2 d2, .bool s3, .slice p3 k3 c3, .slice q3 j3 d3, .bool s4, .slice p4 k4 c4, .slice q4 j4 d4, .bool s5, .slice p5 k5 c5, .slice q5 j5 d5, .bool s6, .slice p6 k6 c6, .slice q6 j6 d6] ∧ RN k w (.agg #[.bool s1, .slice p1 k1 c1, .slice q1 j1 d1]) a ∧ RN k w (.agg #[.bool s2, .slice p2 k2 c2, .slice q2 j2 d2]) b ∧ RN k w (.agg #[.bool s3, .slice p3 k3 c3, .slice q3 j3 d3]) c ∧ RN k w (.agg #[.bool s4, .slice p4 k4 c4, .slice q4 j4 d4]) d ∧ RN k w (.agg #[.bool s5, .slice p5 k5 c5, .slice q5 j5 d5]) e ∧ RN k w (.agg #[.bool s6, .slice p6 k6 c6, .slice q6 j6 d6]) f := by
  obtain ⟨s1, u1, d1, s2, u2, d2, s3, u3, d3, s4, u4, d4, s5, u5, d5, s6, u6, d6, rfl, h1, h2, h3, h4, h5, h6⟩ := h
  obtain ⟨s1, p1, k1, c1, q1, j1, d1, e1⟩ := h1.parts
  simp only [Value.agg.injEq, Array.mk.injEq, List.cons.injEq, and_true] at e1
  obtain ⟨rfl, rfl, rfl⟩ := e1
  obtain ⟨s2, p2, k2, c2, q2, j2, d2, e2⟩ := h2.parts
  simp only [Value.agg.injEq, Array.mk.injEq, List.cons.injEq, and_true] at e2
  obtain ⟨rfl, rfl, rfl⟩ := e2
  obtain ⟨s3, p3, k3, c3, q3, j3, d3, e3⟩ := h3.parts
  simp only [Value.agg.injEq, Array.mk.injEq, List.cons.injEq, and_true] at e3
  obtain ⟨rfl, rfl, rfl⟩ := e3
  obtain ⟨s4, p4, k4, c4, q4, j4, d4, e4⟩ := h4.parts
  simp only [Value.agg.injEq, Array.mk.injEq, List.cons.injEq, and_true] at e4
  obtain ⟨rfl, rfl, rfl⟩ := e4
  obtain ⟨s5, p5, k5, c5, q5, j5, d5, e5⟩ := h5.parts
  simp only [Value.agg.injEq, Array.mk.injEq, List.cons.injEq, and_true] at e5
  obtain ⟨rfl, rfl, rfl⟩ := e5
  obtain ⟨s6, p6, k6, c6, q6, j6, d6, e6⟩ := h6.parts
  simp only [Value.agg.injEq, Array.mk.injEq, List.cons.injEq, and_true] at e6
  obtain ⟨rfl, rfl, rfl⟩ := e6
  exact ⟨s1, p1, k1, c1, q1, j1, d1, s2, p2, k2, c2, q2, j2, d2, s3, p3, k3, c3, q3, j3, d3, s4, p4, k4, c4, q4, j4, d4, s5, p5, k5, c5, q5, j5, d5, s6, p6, k6, c6, q6, j6, d6, rfl, h1, h2, h3, h4, h5, h6⟩
theorem MN.split {z0 z1 z2 z3 z4 z5 z6 z7 z8 z9 z10 z11 z12 z13 z14 z15 z16 z17 : Value} (h : MN k w (.agg #[z0, z1, z2, z3, z4, z5, z6, z7, z8, z9, z10, z11, z12, z13, z14, z15, z16, z17]) a b c d e f) : RN k w (.agg #[z0, z1, z2]) a ∧ RN k w (.agg #[z3, z4, z5]) b ∧ RN k w (.agg #[z6, z7, z8]) c ∧ RN k w (.agg #[z9, z10, z11]) d ∧ RN k w (.agg #[z12, z13, z14]) e ∧ RN k w (.agg #[z15, z16, z17]) f := by
  obtain ⟨s1, u1, d1, s2, u2, d2, s3, u3, d3, s4, u4, d4, s5, u5, d5, s6, u6, d6, h0, h1, h2, h3, h4, h5, h6⟩ := h
  simp only [Value.agg.injEq, Array.mk.injEq, List.cons.injEq, and_true] at h0
  obtain ⟨rfl, rfl, rfl, rfl, rfl, rfl, rfl, rfl, rfl, rfl, rfl, rfl, rfl, rfl, rfl, rfl, rfl, rfl⟩ := h0
  exact ⟨h1, h2, h3, h4, h5, h6⟩
end
theorem rs_zero (w : World) : RS 1 w (.agg #[.bool false, .slice none 0 0, .slice none 0 0]) 0 := ⟨⟨false, _, _, 0, 0, rfl, ni_nil w, ni_nil w, by decide +kernel⟩, by decide, by decide⟩
theorem PN.split {k : Nat} {w : World} {c1 c2 c3 c4 c5 c6 : Value} {x y : Rat} (h : PN k w (.agg #[c1, c2, c3, c4, c5, c6]) x y) : RN k w (.agg #[c1, c2, c3]) x ∧ RN k w (.agg #[c4, c5, c6]) y := by
  obtain ⟨⟨s1, u1, d1, s2, u2, d2, h0, h1, h2⟩, hx, hy⟩ := h
  simp only [Value.agg.injEq, Array.mk.injEq, List.cons.injEq, and_true] at h0
  obtain ⟨rfl, rfl, rfl, rfl, rfl, rfl⟩ := h0
  exact ⟨⟨h1, hx⟩, h2, hy⟩
/-- A value and what came of it. -/
def Tup (Φ : Value → World → Prop) (c : Value) (v : Value) (w : World) : Prop := ∃ u, v = .tuple #[u, c] ∧ Φ u w
theorem Tup.bel {Φ : Value → World → Prop} {c v : Value} {w w' : World} (h : Tup Φ c v w) (hs : ∀ v w w', Φ v w → Bel w w' → Φ v w') (hb : Bel w w') : Tup Φ c v w' := by
  obtain ⟨u, h1, h2⟩ := h
  exact ⟨u, h1, hs _ _ _ h2 hb⟩
theorem au_rdiv {w : World} {a b : Value} {x y : Rat} {i j : Nat} (ha : RS i w a x) (hb : RS j w b y) (hl : i + j < LimK) (h0 : y ≠ 0) : Calls Tryz.prog 34 #[a, b] w (Makes w (Tup (fun v w' => RN (i + j) w' v (x / y)) (.int .i64 0))) := by
  have hn : y.num ≠ 0 := fun h => h0 (Rat.num_eq_zero.1 h)
  refine (mk_rdiv ha hb hl h0).mono fun _ _ h => h.imp fun _ h => ?_
  obtain ⟨u, h1, h2⟩ := h
  exact ⟨u, h1, h2, ha.2.div hb.2 hn⟩
theorem au_rdiv0 {w : World} {a b : Value} {x y : Rat} {i j : Nat} (ha : RS i w a x) (hb : RS j w b y) (hl : i + j < LimK) (h0 : y = 0) : Calls Tryz.prog 34 #[a, b] w (Makes w fun v _ => v = .tuple #[.agg #[.bool false, .slice none 0 0, .slice none 0 0], .int .i64 12]) := mk_rdiv0 ha hb hl h0
end Go.Proofs.YtaaehcohmdojgaaGreatDoor

/-
  More of the evaluator's contracts: made fractions, quotients, texts, points, the laws' own helpers.
-/
namespace Go.Proofs.YtaaehcohmdojgaaGreatDoor
open Go.RowKit Go.Shelf

def asRats : Nat → V → Option (List (Rat × Nat))
  | 0, [] => some []
  | 0, _ :: _ => none
  | n + 1, v => match V.takeN v 3, V.dropN v 3 with
    | some a, some b => match asRat a, asRats n b with
      | some p, some l => some (p :: l)
      | _, _ => none
    | _, _ => none
section
variable {C : Ctx} {w : World}
/-- The cells of so many fractions. -/
def RatCells (w : World) : List (Rat × Nat) → List Value → Prop
  | [], cs => cs = []
  | p :: l, cs => ∃ a b c r, cs = a :: b :: c :: r ∧ (p.2 ≤ LimK → RS p.2 w (.agg #[a, b, c]) p.1) ∧ RatCells w l r
theorem asRats_rel : ∀ {n : Nat} {x : V} {cs : List Value} {l : List (Rat × Nat)}, x.rel C w cs → asRats n x = some l → RatCells w l cs ∧ l.length = n
  | 0, [], cs, l, h, he => by
    simp only [asRats, Option.some.injEq] at he
    subst he
    exact ⟨h, rfl⟩
  | 0, _ :: _, _, _, _, he => by simp [asRats] at he
  | n + 1, x, cs, l, h, he => by
    simp only [asRats] at he
    split at he
    · rename_i a b ha hb
      split at he
      · rename_i p r hp hr
        cases he
        obtain ⟨h1, h2⟩ := V.takeN_rel h ha
        obtain ⟨-, h3⟩ := V.dropN_rel h hb
        obtain ⟨h4, h5⟩ := asRats_rel h3 hr
        match cs, h1 with
        | c0 :: c1 :: c2 :: cs, _ => exact ⟨⟨c0, c1, c2, cs, rfl, fun hk => asRat_rel (x := a) (v := .agg #[c0, c1, c2]) hp ⟨_, h2, rfl⟩ hk, h4⟩, by simp [h5]⟩
        | [_, _], h1 => simp at h1
        | [_], h1 => simp at h1
        | [], h1 => simp at h1
      · cases he
    · cases he
theorem asRats_has {n : Nat} {x : V} {v : Value} {l : List (Rat × Nat)} (h : x.has C w v) (he : asRats n x = some l) (hn : n ≠ 0) : ∃ cs, v = .agg (List.toArray cs) ∧ RatCells w l cs := by
  obtain ⟨cs, h1, rfl⟩ := h
  obtain ⟨h2, h3⟩ := asRats_rel h1 he
  refine ⟨cs, pack_agg ?_, h2⟩
  match l, h3, h2 with
  | [], h3, _ => simp at h3; omega
  | _ :: _, _, h2 => obtain ⟨a, b, c, r, rfl, _⟩ := h2; simp
theorem asPt_has {x : V} {v : Value} {p q : Rat × Nat} (h : x.has C w v) (he : asRats 2 x = some [p, q]) {m : Nat} (hp : p.2 ≤ m) (hq : q.2 ≤ m) (hm : m ≤ LimK) : PS m w v p.1 q.1 := by
  obtain ⟨cs, rfl, a, b, c, r, rfl, h1, d, e, f, s, rfl, h2, h3⟩ := asRats_has h he (by decide)
  simp only [RatCells] at h3
  subst h3
  exact ⟨_, _, _, _, _, _, rfl, (h1 (by omega)).mono hp, (h2 (by omega)).mono hq⟩
theorem pt_has {k : Nat} {v : Value} {x y : Rat} (h : PN k w v x y) (hk : k ≤ LimK) : T.rel C w (.one [.rat x k, .rat y k]) v := by
  obtain ⟨s1, p1, k1, c1, p2, k2, c2, s2, p3, k3, c3, p4, k4, c4, rfl, h1, h2⟩ := h.parts
  exact ⟨[_, _, _, _, _, _], ⟨[_, _, _], _, rfl, ⟨_, _, _, rfl, h1, hk⟩, [_, _, _], [], rfl, ⟨_, _, _, rfl, h2, hk⟩, rfl⟩, rfl⟩
theorem all3 {x y z : V} {vs : List Value} (h : V.hasAll C w [x, y, z] vs) : ∃ a b c, vs = [a, b, c] ∧ x.has C w a ∧ y.has C w b ∧ z.has C w c := by
  obtain ⟨a, r, rfl, h1, b, s, rfl, h2, c, t, rfl, h3, h4⟩ := h
  simp only [V.hasAll] at h4
  subst h4
  exact ⟨a, b, c, rfl, h1, h2, h3⟩
end
/-! ### rat.Of, rat.Div, rat.Text -/
theorem ok_div : OkCon Tryz.prog 34 (conR2 cDiv) := r2_ok (fun vs w => Go.MuLone.run_callFunc_enter Tryz.func34 rfl rfl vs w) fun q i r j t h => by
  obtain ⟨h1, ⟨hb, rfl⟩ | ⟨hb, rfl⟩⟩ := h <;> have h1 := Nat.ble_eq.mp h1
  · exact ⟨by omega, by omega, fun C w a b ha hb' => (au_rdiv0 ha hb' h1 (of_decide_eq_true hb)).mono fun _ w' h => h.imp fun _ h => by
      subst h
      exact ⟨[_, _], rfl, _, _, rfl, ⟨[_, _, _], ⟨_, [], rfl, ⟨rfl, rs_zero _⟩, rfl⟩, rfl⟩, _, _, rfl, one_of rfl, rfl⟩⟩
  · exact ⟨by omega, by omega, fun C w a b ha hb' => (au_rdiv ha hb' h1 (of_decide_eq_false hb)).mono fun _ w' h => h.imp fun _ h => by
      obtain ⟨u, rfl, hu⟩ := h
      exact ⟨[_, _], rfl, _, _, rfl, rat_has hu (by omega), _, _, rfl, one_of rfl, rfl⟩⟩
def intU : U → Option (Bool × Int)
  | .lit (.int .i64 n) => some (true, n)
  | .sym (.int .i64 n) => some (false, n)
  | _ => none
theorem intU_has {C : Ctx} {w : World} {u : U} {l : Bool} {n : Int} {v : Value} (h : intU u = some (l, n)) (hr : V.has C w [u] v) : v = .int .i64 n := by
  unfold intU at h
  split at h <;> first | (cases h; have := u_rel hr rfl; simpa [U.rel] using this) | cases h
def conI2 (F : Bool → Int → Int → Out T) : Con
  | [[u], [v]] => match intU u, intU v with | some (l, a), some (m, b) => F (l && m) a b | _, _ => .fail
  | _ => .fail
theorem i2_ok {P : Program} {f : FuncId} {F : Bool → Int → Int → Out T} (he : ∀ vs w, (callFunc f vs).run P w = .ok (.enter f vs) w)
    (h : ∀ l p q t, (F l p q).gets t → ∀ C w, Calls P f #[.int .i64 p, .int .i64 q] w (Makes w fun v w' => T.rel C w' t v)) : OkCon P f (conI2 F) := ⟨he, fun args t hg C w vs _ ha => by
  unfold conI2 at hg
  split at hg
  · rename_i u v
    split at hg
    · rename_i l p m q hp hq
      obtain ⟨a, b, rfl, h1, h2⟩ := all2 ha
      obtain rfl := intU_has hp h1
      obtain rfl := intU_has hq h2
      exact h _ p q t hg C w
    · exact hg.elim
  · exact hg.elim⟩
def fitsB (p : Int) : Bool := decide (-9223372036854775808 ≤ p) && decide (p < 9223372036854775808)
theorem fits_of {p : Int} (h : fitsB p = true) : -9223372036854775808 ≤ p ∧ p < 9223372036854775808 := by simpa [fitsB] using h
/-- Numerals are looked at; of others it is asked. -/
def Out.ask {α : Type} (l : Bool) (b : Bool) (k : Out α) : Out α := match l with | true => .chk b k | false => .need (b = true) k
theorem ask_gets {α : Type} {l b : Bool} {k : Out α} {x : α} (h : (Out.ask l b k).gets x) : b = true ∧ k.gets x := by cases l <;> exact h
def cOf (l : Bool) (p q : Int) : Out T := .ask l (fitsB p && fitsB q && decide (0 < q)) (.leaf (.one [.rat (mkRat p q.toNat) 1]))
theorem ok_of : OkCon Tryz.prog 26 (conI2 cOf) := i2_ok (fun vs w => Go.MuLone.run_callFunc_enter Tryz.func26 rfl rfl vs w) fun l p q t h => by
  obtain ⟨h0, rfl⟩ := ask_gets h
  simp only [Bool.and_eq_true, decide_eq_true_eq] at h0
  obtain ⟨⟨h1, h2⟩, h3⟩ := h0
  obtain ⟨h1, h1'⟩ := fits_of h1
  obtain ⟨-, h2⟩ := fits_of h2
  obtain ⟨n, rfl⟩ := Int.eq_ofNat_of_zero_le (Int.le_of_lt h3)
  exact fun C w => (au_rof (p := p) (q := n) h1 h1' (by omega) (by omega) w).mono fun _ _ h => h.imp fun _ h => rat_has h (by decide)
def cP (l : Bool) (p q : Int) : Out T := .ask l (fitsB p && fitsB q) (.leaf (.one [.rat p 1, .rat q 1]))
theorem ok_P : OkCon Tryz.prog 30 (conI2 cP) := i2_ok (fun vs w => Go.MuLone.run_callFunc_enter Tryz.func30 rfl rfl vs w) fun l p q t h => by
  obtain ⟨h0, rfl⟩ := ask_gets h
  simp only [Bool.and_eq_true] at h0
  obtain ⟨h1, h2⟩ := fits_of h0.1
  obtain ⟨h3, h4⟩ := fits_of h0.2
  exact fun C w => (au_P h1 h2 h3 h4 w).mono fun _ _ h => h.imp fun _ h => pt_has h (by decide)
def cText (q : Rat) (i : Nat) : Out T := .chk (decide (i ≤ LimK ∧ TextOK q)) (.leaf (.one [.sym (.string ⟨(textQ q).toArray⟩)]))
theorem ok_text : OkCon Tryz.prog 31 (conR1 cText) := r1_ok (fun vs w => Go.MuLone.run_callFunc_enter Tryz.func31 rfl rfl vs w) fun q i t h => by
  obtain ⟨h0, rfl⟩ := h
  obtain ⟨h1, h2⟩ := of_decide_eq_true h0
  exact ⟨h1, fun C w a ha => (rtext_small ha h1 h2).mono fun _ _ h => h.imp fun _ h => by subst h; exact one_of rfl⟩
/-! ### Points, maps, the laws' helpers -/
def cScale : Con
  | [x, k] => match asRats 2 x, asRat k with
    | some [(p, i), (q, j)], some (z, m) => .chk (((i.max j) + m).blt LimK) (.leaf (.one [.rat (p * z) ((i.max j) + m), .rat (q * z) ((i.max j) + m)]))
    | _, _ => .fail
  | _ => .fail
theorem ok_scale : OkCon Tryz.prog 59 cScale := ⟨fun vs w => Go.MuLone.run_callFunc_enter Tryz.func59 rfl rfl vs w, fun args t hg C w vs _ ha => by
  unfold cScale at hg
  split at hg
  · split at hg
    · rename_i p i q j z m hx hk
      obtain ⟨hl, rfl⟩ := hg
      have hl := Nat.ble_eq.mp hl
      obtain ⟨a, b, rfl, h1, h2⟩ := all2 ha
      exact (au_scale (asPt_has (m := i.max j) h1 hx (Nat.le_max_left i j) (Nat.le_max_right i j) (by omega)) (asRat_rel hk h2 (by omega)) hl).mono fun _ _ h => h.imp fun _ h => pt_has h (by omega)
    · exact hg.elim
  · exact hg.elim⟩
def cTrue : Con
  | [] => .leaf (.one [.lit (.bool true)])
  | _ => .fail
/-- A made fraction is good. -/
def cGood : Con
  | [[.rat _ k]] => .chk (k.blt LimK) (.leaf (.one [.lit (.bool true)]))
  | _ => .fail
def toRps : List Value → Option (List Rp)
  | [] => some []
  | .bool s1 :: .slice p1 k1 c1 :: .slice q1 j1 d1 :: .bool s2 :: .slice p2 k2 c2 :: .slice q2 j2 d2 :: l => (toRps l).map fun r => ⟨s1, p1, k1, c1, q1, j1, d1, s2, p2, k2, c2, q2, j2, d2⟩ :: r
  | _ => none
theorem toRps_row : ∀ {l : List Value} {r : List Rp}, toRps l = some r → l = r.flatMap Rp.row
  | [], r, h => by simp only [toRps, Option.some.injEq] at h; subst h; rfl
  | v :: l, r, h => by
    unfold toRps at h
    split at h
    · rename_i he; cases he
    · rename_i s1 p1 k1 c1 q1 j1 d1 s2 p2 k2 c2 q2 j2 d2 l' he
      cases he
      cases hr : toRps l' with
      | none => rw [hr] at h; cases h
      | some m =>
        rw [hr] at h
        cases h
        rw [toRps_row hr]
        rfl
    · cases h
def cFair : Con
  | [[.sl l n 6]] => match toRps l with
    | some r => .chk (n.blt 1000000) (.leaf (.one [.sym (.bool (r.all (Rp.ok 6)))]))
    | none => .fail
  | _ => .fail
theorem rows_len : ∀ (r : List Rp), (r.flatMap Rp.row).length = r.length * 6
  | [] => rfl
  | x :: r => by rw [List.flatMap_cons, List.length_append, rows_len r]; simp [Rp.row]; omega
theorem ok_fair : OkCon Tryz.prog 8 cFair := ⟨fun vs w => Go.MuLone.run_callFunc_enter Tryz.func8 rfl rfl vs w, fun args t hg C w vs _ ha => by
  unfold cFair at hg
  split at hg
  · rename_i l n
    split at hg
    · rename_i r hr
      obtain ⟨hn, rfl⟩ := hg
      have hn := Nat.ble_eq.mp hn
      obtain ⟨a, rfl, h1⟩ := all1 ha
      obtain ⟨G, h2, h3, h4⟩ := u_rel h1 rfl
      simp only [List.cons.injEq, and_true] at h2
      subst h2
      have hl := toRps_row hr
      have hlen : r.length = n := by rw [hl, rows_len] at h3; omega
      subst hlen
      have hsl : RpSl r (.slice (some ⟨G, 0, none⟩) r.length r.length) w := ⟨G, rfl, fun i x hx j u hu => (h4 (i * 6 + j) u (by rw [hl]; exact rows_at r i x j u hx hu)).2⟩
      exact (au_fair hsl hn rfl).mono fun _ _ h => h.imp fun _ h => by subst h; exact one_of rfl
    · exact hg.elim
  · exact hg.elim⟩
end Go.Proofs.YtaaehcohmdojgaaGreatDoor

/-
  The program's functions in straight lines, as contracts: points, maps.
-/
namespace Go.Proofs.YtaaehcohmdojgaaGreatDoor
open Go.RowKit Go.Shelf

noncomputable def fnsOf (l : List (FuncId × Con)) : List (FuncId × Func) → List (FuncId × Con)
  | [] => l
  | p :: r => (p.1, exFn (envOf l) p.2) :: fnsOf l r
def Funs : List (FuncId × Func) → Prop
  | [] => True
  | p :: r => (Tryz.prog.funcs[p.1]? = some p.2 ∧ p.2.body.isSome = true ∧ (p.2.name == "runtime.NumGoroutine") = false) ∧ Funs r
theorem fns_ok {l : List (FuncId × Con)} (h : AllCon Tryz.prog l) : ∀ {fs : List (FuncId × Func)}, Funs fs → AllCon Tryz.prog (fnsOf l fs)
  | [], _ => h
  | p :: r, hf => by
    obtain ⟨⟨h1, h2, h3⟩, h4⟩ := hf
    obtain ⟨c, hc⟩ := Option.isSome_iff_exists.1 h2
    exact ⟨OkCon.fn (envOf_ok h) h1 hc h3, fns_ok h h4⟩
def cSame : Con
  | [x, y] => match asRats 2 x, asRats 2 y with
    | some [(a, i), (b, j)], some [(c, k), (d, l)] => .chk (((i.max j) + (k.max l)).blt LimK) (.leaf (.one [.sym (.bool (decide (a = c ∧ b = d)))]))
    | _, _ => .fail
  | _ => .fail
theorem pd_has {C : Ctx} {w : World} {k : Nat} {v : Value} {x y : Rat} (h : PS k w v x y) : V.has C w [.rd x k, .rd y k] v := by
  obtain ⟨s1, u1, d1, s2, u2, d2, rfl, h1, h2⟩ := h
  exact ⟨[_, _, _, _, _, _], ⟨[_, _, _], _, rfl, ⟨_, _, _, rfl, h1⟩, [_, _, _], [], rfl, ⟨_, _, _, rfl, h2⟩, rfl⟩, rfl⟩
theorem same_tree (a b c d : Rat) (i j : Nat) : exFn (envOf cons0) Tryz.f24 [[.rd a i, .rd b i], [.rd c j, .rd d j]] = .chk ((i + j).blt LimK) (.br (cmpR a c == 0) (.chk ((i + j).blt LimK) (.leaf (.one [.sym (.bool (cmpR b d == 0))]))) (.leaf (.one [.lit (.bool false)]))) := by kernel_rfl
theorem same_calls {C : Ctx} {w : World} {u v : Value} {a b c d : Rat} {i j : Nat} {t : T} (hlt : ∀ r, C.S r → r < w.heap.size) (p1 : PS i w u a b) (p2 : PS j w v c d)
    (ht : (Out.chk ((i + j).blt LimK) (.br (cmpR a c == 0) (.chk ((i + j).blt LimK) (.leaf (.one [.sym (.bool (cmpR b d == 0))]))) (.leaf (.one [.lit (.bool false)])))).gets t) : Calls Tryz.prog 24 #[u, v] w (Makes w fun v w' => T.rel C w' t v) := by
  have h2 : V.hasAll C w [[.rd a i, .rd b i], [.rd c j, .rd d j]] [u, v] := ⟨u, [v], rfl, pd_has p1, v, [], rfl, pd_has p2, rfl⟩
  exact fn_tree (envOf_ok cons0_ok) Tryz.func24 (same_tree a b c d i j) ht hlt h2
theorem cmp_dec {a b : Rat} : (cmpR a b == 0) = decide (a = b) := by
  rw [Bool.eq_iff_iff]
  simp [cmpR_eq]
theorem ok_same : OkCon Tryz.prog 24 cSame := ⟨fun vs w => Go.MuLone.run_callFunc_enter Tryz.func24 rfl rfl vs w, fun args t hg C w vs hlt ha => by
  unfold cSame at hg
  split at hg
  · split at hg
    · rename_i a i b j c k d l hx hy
      obtain ⟨hl, rfl⟩ := hg
      have hl' := Nat.ble_eq.mp hl
      obtain ⟨u, v, rfl, h1, h2⟩ := all2 ha
      have p1 := asPt_has (m := i.max j) h1 hx (Nat.le_max_left i j) (Nat.le_max_right i j) (by omega)
      have p2 := asPt_has (m := k.max l) h2 hy (Nat.le_max_left k l) (Nat.le_max_right k l) (by omega)
      have key := fun t ht => same_calls (C := C) (t := t) hlt p1 p2 ht
      by_cases hac : a = c
      · refine (key (.one [.sym (.bool (cmpR b d == 0))]) ⟨hl, .inl ⟨by rw [cmp_dec]; exact decide_eq_true hac, hl, rfl⟩⟩).mono fun _ _ h => h.imp fun _ h => ?_
        rw [cmp_dec] at h
        simpa [hac] using h
      · refine (key (.one [.lit (.bool false)]) ⟨hl, .inr ⟨by rw [cmp_dec]; exact decide_eq_false hac, rfl⟩⟩).mono fun _ _ h => h.imp fun _ h => ?_
        rw [show decide (a = c ∧ b = d) = false from decide_eq_false (fun h => hac h.1)]
        exact h
    · exact hg.elim
  · exact hg.elim⟩
/-- A helper of the laws, all whose numbers are told: evaluated, it answers true. -/
theorem ok_wakes {l : List (FuncId × Con)} (h : AllCon Tryz.prog l) {f : FuncId} {fn : Func} {c : Code} (hf : Tryz.prog.funcs[f]? = some fn) (hb : fn.body = some c) (hn : (fn.name == "runtime.NumGoroutine") = false) (hr : (exFn (envOf l) fn []).run = some (.one [.lit (.bool true)]) ∨ (exFn (envOf l) fn []).run = some (.one [.sym (.bool true)])) : OkCon Tryz.prog f cTrue := ⟨fun vs w => Go.MuLone.run_callFunc_enter hf hn hb vs w, fun args t hg C w vs hlt ha => by
  unfold cTrue at hg
  split at hg
  · obtain rfl := hg
    rcases hr with hr | hr <;> exact fn_calls (envOf_ok h) hf (run_gets hr) hlt ha
  · exact hg.elim⟩
def cons1 : List (FuncId × Con) :=
  (26, conI2 cOf) ::
  (34, conR2 cDiv) ::
  (31, conR1 cText) ::
  (30, conI2 cP) ::
  (8, cFair) ::
  (59, cScale) ::
  (24, cSame) ::
  cons0
theorem cons1_ok : AllCon Tryz.prog cons1 := by
  refine ?_
  refine ⟨ok_of, ?_⟩
  refine ⟨ok_div, ?_⟩
  refine ⟨ok_text, ?_⟩
  refine ⟨ok_P, ?_⟩
  refine ⟨ok_fair, ?_⟩
  refine ⟨ok_scale, ?_⟩
  refine ⟨ok_same, ?_⟩
  exact cons0_ok
noncomputable def cons2 := fnsOf cons1 (
  (73, Tryz.f73) ::
  (123, Tryz.f123) ::
  (35, Tryz.f35) ::
  [])
theorem cons2_ok : AllCon Tryz.prog cons2 := fns_ok cons1_ok (by first | exact trivial | exact ⟨
  ⟨Tryz.func73, rfl, rfl⟩,
  ⟨Tryz.func123, rfl, rfl⟩,
  ⟨Tryz.func35, rfl, rfl⟩,
  trivial⟩)
noncomputable def cons3 := fnsOf cons2 (
  (58, Tryz.f58) ::
  (33, Tryz.f33) ::
  [])
theorem cons3_ok : AllCon Tryz.prog cons3 := fns_ok cons2_ok (by first | exact trivial | exact ⟨
  ⟨Tryz.func58, rfl, rfl⟩,
  ⟨Tryz.func33, rfl, rfl⟩,
  trivial⟩)
noncomputable def cons4 := fnsOf cons3 (
  (25, Tryz.f25) ::
  (77, Tryz.f77) ::
  (28, Tryz.f28) ::
  [])
theorem cons4_ok : AllCon Tryz.prog cons4 := fns_ok cons3_ok (by first | exact trivial | exact ⟨
  ⟨Tryz.func25, rfl, rfl⟩,
  ⟨Tryz.func77, rfl, rfl⟩,
  ⟨Tryz.func28, rfl, rfl⟩,
  trivial⟩)
noncomputable def cons5 := fnsOf cons4 (
  [])
theorem cons5_ok : AllCon Tryz.prog cons5 := fns_ok cons4_ok (by first | exact trivial | exact ⟨
  trivial⟩)
noncomputable def cons6 :=
  cons5
theorem cons6_ok : AllCon Tryz.prog cons6 := by
  refine ?_
  exact cons5_ok
/-- A point that came in, as the evaluator takes it. -/
def Rp.v (x : Rp) (X Y : Rat) (k : Nat) : V := [.raw (.bool x.s1) (.slice x.p1 x.k1 x.c1) (.slice x.q1 x.j1 x.d1) X k, .raw (.bool x.s2) (.slice x.p2 x.k2 x.c2) (.slice x.q2 x.j2 x.d2) Y k]
end Go.Proofs.YtaaehcohmdojgaaGreatDoor

/-
  A law evaluated: that it answers true.
-/
namespace Go.Proofs.YtaaehcohmdojgaaGreatDoor
open Go.RowKit Go.Shelf

def C0 : Ctx := ⟨fun _ => False, fun _ => none, fun _ => 0⟩
def yes : T := .one [.lit (.bool true)]
def no : T := .one [.lit (.bool false)]
theorem no_yes : (no = yes) = False := by
  refine eq_false fun h => ?_
  simp [no, yes] at h
theorem law_calls {E : Env} (hE : E.Ok) {f : FuncId} {fn : Func} {w : World} (hf : E.P.funcs[f]? = some fn) {args : List V} {vs : List Value} {o : Out T} (he : (exFn E fn args).clean = o) (h : o.holds (· = yes)) (ha : V.hasAll C0 w args vs) :
    Calls E.P f (List.toArray vs) w (Makes w fun v _ => v = .bool true) := by
  subst he
  obtain ⟨t, h1, rfl⟩ := holds_gets h
  exact (fn_calls hE hf (clean_gets h1) (fun _ (h : False) => h.elim) ha).mono fun _ _ h => h.imp fun v h => by
    have := u_rel h rfl
    simpa [U.rel] using this
/-- A point that came in, of which nothing is known. -/
def Rp.sv (x : Rp) : V := [.sym (.bool x.s1), .sym (.slice x.p1 x.k1 x.c1), .sym (.slice x.q1 x.j1 x.d1), .sym (.bool x.s2), .sym (.slice x.p2 x.k2 x.c2), .sym (.slice x.q2 x.j2 x.d2)]
section
variable {C : Ctx} {w : World}
theorem Rp.sv_rel (x : Rp) : V.rel C w x.sv x.row := ⟨[_], _, rfl, rfl, [_], _, rfl, rfl, [_], _, rfl, rfl, [_], _, rfl, rfl, [_], _, rfl, rfl, [_], [], rfl, rfl, rfl⟩
theorem Rp.v_rel {x : Rp} {X Y : Rat} {k : Nat} (h : PS k w (.agg x.row.toArray) X Y) : V.rel C w (x.v X Y k) x.row := by
  obtain ⟨h1, h2⟩ := PS.split (show PS k w (.agg #[.bool x.s1, .slice x.p1 x.k1 x.c1, .slice x.q1 x.j1 x.d1, .bool x.s2, .slice x.p2 x.k2 x.c2, .slice x.q2 x.j2 x.d2]) X Y from h)
  exact ⟨[_, _, _], _, rfl, ⟨rfl, h1⟩, [_, _, _], [], rfl, ⟨rfl, h2⟩, rfl⟩
theorem has_row {x : V} {cs : List Value} (h : x.rel C w cs) (hl : cs.length ≠ 1) : V.has C w x (.agg cs.toArray) := ⟨cs, h, (pack_agg hl).symm⟩
end
end Go.Proofs.YtaaehcohmdojgaaGreatDoor

/-
  The plain laws of chapter 6.
-/
namespace Go.Proofs.YtaaehcohmdojgaaGreatDoor

section
variable (xa ya xb yb xc yc m n : Rat)
variable (xp yp xq yq : Rat)
end
end Go.Proofs.YtaaehcohmdojgaaGreatDoor

/-
  The plain laws of PtNear: how far a point is from a segment.
-/
namespace Go.Proofs.YtaaehcohmdojgaaGreatDoor

theorem cmpR_le {x y : Rat} : ¬ 0 < cmpR x y ↔ x ≤ y := by
  unfold cmpR
  by_cases h : x < y
  · rw [if_pos h]
    exact ⟨fun _ => by grind, fun _ => by decide⟩
  · rw [if_neg h]
    by_cases h0 : x = y
    · rw [if_pos h0]
      exact ⟨fun _ => by grind, fun _ => by decide⟩
    · rw [if_neg h0]
      exact ⟨fun h => absurd (by decide) h, fun h1 => by exfalso; grind⟩
theorem cmpR_lt {x y : Rat} : cmpR x y < 0 ↔ x < y := by
  unfold cmpR
  by_cases h : x < y
  · rw [if_pos h]
    exact ⟨fun _ => h, fun _ => by decide⟩
  · rw [if_neg h]
    refine ⟨fun h1 => ?_, fun h1 => absurd h1 h⟩
    split at h1 <;> exact absurd h1 (by decide)
theorem cmpR_gt {x y : Rat} : 0 < cmpR x y ↔ y < x := by
  have := @cmpR_le x y
  constructor
  · intro h
    refine Rat.not_le.1 fun hle => ?_
    exact this.2 hle h
  · intro h
    refine Decidable.byContradiction fun hn => ?_
    have := this.1 hn
    grind
section
variable (px py ax ay bx cy : Rat)
end
end Go.Proofs.YtaaehcohmdojgaaGreatDoor

/-
  Segments: points of one line, points of a segment.
-/
namespace Go.Proofs.YtaaehcohmdojgaaGreatDoor.Sg

abbrev Pq := Rat × Rat
def crs (u v : Pq) : Rat := u.1 * v.2 - u.2 * v.1
def sbP (p q : Pq) : Pq := (p.1 - q.1, p.2 - q.2)
def adP (p : Pq) (t : Rat) (u : Pq) : Pq := (p.1 + t * u.1, p.2 + t * u.2)
def farP (p q : Pq) : Rat := (p.1 - q.1) * (p.1 - q.1) + (p.2 - q.2) * (p.2 - q.2)
def Btw (x a b : Rat) : Prop := (a ≤ x ∧ x ≤ b) ∨ (b ≤ x ∧ x ≤ a)
instance (x a b : Rat) : Decidable (Btw x a b) := by unfold Btw; infer_instance
def OnP (p a b : Pq) : Prop := crs (sbP b a) (sbP p a) = 0 ∧ Btw p.1 a.1 b.1 ∧ Btw p.2 a.2 b.2
instance (p a b : Pq) : Decidable (OnP p a b) := by unfold OnP; infer_instance
theorem mul_cancel {k x y : Rat} (hk : k ≠ 0) (h : k * x = k * y) : x = y := by
  have : k * (x - y) = 0 := by grind
  rcases Rat.mul_eq_zero.1 this with h | h
  · exact absurd h hk
  · grind
theorem mul_le_pos {k x y : Rat} (hk : 0 < k) : k * x ≤ k * y ↔ x ≤ y := by
  constructor
  · intro h
    refine Rat.not_lt.1 fun hlt => ?_
    have : 0 < k * (x - y) := Rat.mul_pos hk (by grind)
    grind
  · intro h
    have : 0 ≤ k * (y - x) := Rat.mul_nonneg (by grind) (by grind)
    grind
theorem btw_scale {k c x y z : Rat} (hk : k ≠ 0) : Btw (c + x * k) (c + y * k) (c + z * k) ↔ Btw x y z := by
  unfold Btw
  have hk' : k < 0 ∨ 0 < k := by grind
  rcases hk' with h | h
  · have e : ∀ x y : Rat, c + x * k ≤ c + y * k ↔ y ≤ x := fun x y => by
      have := @mul_le_pos (-k) y x (by grind)
      rw [← this]
      constructor <;> intro h <;> grind
    simp only [e]
    grind
  · have e : ∀ x y : Rat, c + x * k ≤ c + y * k ↔ x ≤ y := fun x y => by
      have := @mul_le_pos k x y h
      rw [← this]
      constructor <;> intro h <;> grind
    simp only [e]
theorem btw_same {x a : Rat} : Btw x a a ↔ x = a := by
  unfold Btw
  constructor
  · intro h; grind
  · intro h; subst h; exact .inl ⟨Rat.le_refl, Rat.le_refl⟩
/-- Points of one line: between as their places are. -/
theorem on_line {a u : Pq} (hu : u ≠ (0, 0)) (x y z : Rat) : OnP (adP a x u) (adP a y u) (adP a z u) ↔ Btw x y z := by
  have hc : crs (sbP (adP a z u) (adP a y u)) (sbP (adP a x u) (adP a y u)) = 0 := by
    unfold crs sbP adP
    grind
  unfold OnP
  simp only [hc, true_and]
  have hx : u.1 = 0 ∨ u.1 ≠ 0 := Decidable.em _
  have hy : u.2 = 0 ∨ u.2 ≠ 0 := Decidable.em _
  unfold adP
  dsimp only
  rcases hx with hx | hx <;> rcases hy with hy | hy
  · exact absurd (Prod.ext hx hy) hu
  · rw [btw_scale hy, hx]
    simp only [Rat.mul_zero, Rat.add_zero, btw_same, true_and]
  · rw [btw_scale hx, hy]
    simp only [Rat.mul_zero, Rat.add_zero, btw_same, and_true]
  · rw [btw_scale hx, btw_scale hy, and_self]
theorem ad_zero (a u : Pq) : adP a 0 u = a := by unfold adP; simp [Rat.zero_mul, Rat.add_zero]
theorem ad_one (a b : Pq) : adP a 1 (sbP b a) = b := by
  unfold adP sbP
  apply Prod.ext <;> dsimp only <;> grind
theorem ad_inj {a u : Pq} (hu : u ≠ (0, 0)) {x y : Rat} (h : adP a x u = adP a y u) : x = y := by
  unfold adP at h
  simp only [Prod.mk.injEq] at h
  by_cases hx : u.1 = 0
  · by_cases hy : u.2 = 0
    · exact absurd (Prod.ext hx hy) hu
    · exact mul_cancel hy (by grind)
  · exact mul_cancel hx (by grind)
theorem on_point {p a : Pq} : OnP p a a ↔ p = a := by
  unfold OnP
  rw [btw_same, btw_same]
  constructor
  · rintro ⟨-, h1, h2⟩; exact Prod.ext h1 h2
  · rintro rfl
    refine ⟨?_, rfl, rfl⟩
    unfold crs sbP
    grind
/-- A point of a segment, by its place. -/
theorem on_iff {p a b : Pq} : OnP p a b ↔ ∃ t, 0 ≤ t ∧ t ≤ 1 ∧ p = adP a t (sbP b a) := by
  by_cases hab : a = b
  · subst hab
    rw [on_point]
    constructor
    · rintro rfl
      exact ⟨0, Rat.le_refl, by decide, (ad_zero _ _).symm⟩
    · rintro ⟨t, -, -, h⟩
      rw [h]
      unfold adP sbP
      apply Prod.ext <;> dsimp only <;> grind
  · have hu : sbP b a ≠ (0, 0) := fun h => hab (by
      unfold sbP at h
      simp only [Prod.mk.injEq] at h
      exact Prod.ext (by grind) (by grind))
    have key : ∀ t, OnP (adP a t (sbP b a)) a b ↔ Btw t 0 1 := fun t => by
      have := on_line (a := a) hu t 0 1
      rwa [ad_zero, ad_one] at this
    constructor
    · intro h
      have hex : ∃ t, p = adP a t (sbP b a) := by
        obtain ⟨hc, h1, h2⟩ := h
        unfold crs at hc
        by_cases hx : (sbP b a).1 = 0
        · have hy : (sbP b a).2 ≠ 0 := fun hy => hu (Prod.ext hx hy)
          refine ⟨(p.2 - a.2) / (sbP b a).2, ?_⟩
          have h3 : (p.2 - a.2) / (sbP b a).2 * (sbP b a).2 = p.2 - a.2 := Rat.div_mul_cancel hy
          have h4 : (sbP b a).2 * (p.1 - a.1) = (sbP b a).2 * 0 := by
            have : (sbP p a).1 = p.1 - a.1 := rfl
            have : (sbP p a).2 = p.2 - a.2 := rfl
            grind
          have h5 := mul_cancel hy h4
          unfold adP
          apply Prod.ext <;> dsimp only
          · rw [hx]; grind
          · rw [h3]; grind
        · refine ⟨(p.1 - a.1) / (sbP b a).1, ?_⟩
          have h3 : (p.1 - a.1) / (sbP b a).1 * (sbP b a).1 = p.1 - a.1 := Rat.div_mul_cancel hx
          obtain ⟨q, hq⟩ : ∃ q, (p.1 - a.1) / (sbP b a).1 = q := ⟨_, rfl⟩
          rw [hq] at h3 ⊢
          have e1 : (sbP p a).1 = p.1 - a.1 := rfl
          have e2 : (sbP p a).2 = p.2 - a.2 := rfl
          rw [e1, e2] at hc
          obtain ⟨ux, hux⟩ : ∃ ux, (sbP b a).1 = ux := ⟨_, rfl⟩
          obtain ⟨uy, huy⟩ : ∃ uy, (sbP b a).2 = uy := ⟨_, rfl⟩
          rw [hux] at hc h3 hx
          rw [huy] at hc
          have h4 : ux * (p.2 - a.2) = ux * (q * uy) := by
            have : ux * (q * uy) = (q * ux) * uy := by grind
            rw [this, h3]
            grind
          have h5 := mul_cancel hx h4
          unfold adP
          rw [hux, huy]
          apply Prod.ext <;> dsimp only
          · rw [h3]; grind
          · rw [← h5]; grind
      obtain ⟨t, rfl⟩ := hex
      have := (key t).1 h
      unfold Btw at this
      exact ⟨t, by grind, by grind, rfl⟩
    · rintro ⟨t, h0, h1, rfl⟩
      exact (key t).2 (.inl ⟨h0, h1⟩)
end Go.Proofs.YtaaehcohmdojgaaGreatDoor.Sg

/-
  What two segments have in common.
-/
namespace Go.Proofs.YtaaehcohmdojgaaGreatDoor.Sg

/-- What two segments have in common. -/
def Com (a b c d : Pq) (x : Pq) : Prop := OnP x a b ∧ OnP x c d
instance (a b c d x : Pq) : Decidable (Com a b c d x) := by unfold Com; infer_instance
def Meets (a b c d : Pq) (l : List Pq) : Prop :=
  (l = [] ∧ ∀ x, ¬ Com a b c d x) ∨ (∃ p, l = [p] ∧ ∀ x, Com a b c d x ↔ x = p) ∨ (∃ p q, l = [p, q] ∧ p ≠ q ∧ farP p a < farP q a ∧ ∀ x, Com a b c d x ↔ OnP x p q)
theorem on_left (a b : Pq) : OnP a a b := on_iff.2 ⟨0, Rat.le_refl, by decide, (ad_zero _ _).symm⟩
theorem on_right (a b : Pq) : OnP b a b := on_iff.2 ⟨1, by decide, Rat.le_refl, (ad_one _ _).symm⟩
theorem on_swap {x a b : Pq} : OnP x a b ↔ OnP x b a := by
  have key : ∀ {x a b : Pq}, OnP x a b → OnP x b a := fun {x a b} h => by
    obtain ⟨t, h0, h1, rfl⟩ := on_iff.1 h
    refine on_iff.2 ⟨1 - t, by grind, by grind, ?_⟩
    unfold adP sbP
    apply Prod.ext <;> dsimp only <;> grind
  exact ⟨key, key⟩
theorem far_ad (a u : Pq) (t : Rat) : farP (adP a t u) a = t * t * (u.1 * u.1 + u.2 * u.2) := by
  unfold farP adP
  dsimp only
  grind
theorem sq_pos {u : Pq} (hu : u ≠ (0, 0)) : 0 < u.1 * u.1 + u.2 * u.2 := by
  have nn : ∀ x : Rat, 0 ≤ x * x := fun x => by
    by_cases h : 0 ≤ x
    · exact Rat.mul_nonneg h h
    · have h' : 0 ≤ -x := by grind
      have := Rat.mul_nonneg h' h'
      grind
  have pp : ∀ x : Rat, x ≠ 0 → 0 < x * x := fun x hx => by
    have := nn x
    have hne : x * x ≠ 0 := fun h => by rcases Rat.mul_eq_zero.1 h with h | h <;> exact hx h
    grind
  have h1 := nn u.1
  have h2 := nn u.2
  by_cases hx : u.1 = 0
  · have := pp u.2 (fun hy => hu (Prod.ext hx hy))
    grind
  · have := pp u.1 hx
    grind
theorem far_lt {a u : Pq} (hu : u ≠ (0, 0)) {s t : Rat} (hs : 0 ≤ s) (hst : s < t) : farP (adP a s u) a < farP (adP a t u) a := by
  rw [far_ad, far_ad]
  have h1 := sq_pos hu
  have h2 : 0 < (t - s) * (t + s) := Rat.mul_pos (by grind) (by grind)
  have h3 : 0 < ((t - s) * (t + s)) * (u.1 * u.1 + u.2 * u.2) := Rat.mul_pos h2 h1
  grind
/-- What they have in common is one list alone. -/
theorem meets_one {a b c d c' d' : Pq} {l m : List Pq} (h : Meets a b c d l) (k : Meets a b c' d' m) (hi : ∀ x, Com a b c d x ↔ Com a b c' d' x) : l = m := by
  rcases h with ⟨rfl, h⟩ | ⟨p, rfl, h⟩ | ⟨p, q, rfl, hne, hf, h⟩ <;> rcases k with ⟨rfl, k⟩ | ⟨r, rfl, k⟩ | ⟨r, s, rfl, hne', hf', k⟩
  · rfl
  · exact absurd ((hi r).2 ((k r).2 rfl)) (h r)
  · exact absurd ((hi r).2 ((k r).2 (on_left _ _))) (h r)
  · exact absurd ((hi p).1 ((h p).2 rfl)) (k p)
  · rw [(k p).1 ((hi p).1 ((h p).2 rfl))]
  · have h1 := (h r).1 ((hi r).2 ((k r).2 (on_left _ _)))
    have h2 := (h s).1 ((hi s).2 ((k s).2 (on_right _ _)))
    exact absurd (h1.trans h2.symm) hne'
  · exact absurd ((hi p).1 ((h p).2 (on_left _ _))) (k p)
  · have h1 := (k p).1 ((hi p).1 ((h p).2 (on_left _ _)))
    have h2 := (k q).1 ((hi q).1 ((h q).2 (on_right _ _)))
    exact absurd (h1.trans h2.symm) hne
  · -- the two ends of one segment
    have hu : sbP q p ≠ (0, 0) := fun e => hne (by
      unfold sbP at e
      simp only [Prod.mk.injEq] at e
      exact Prod.ext (by grind) (by grind))
    have e : ∀ x, OnP x p q ↔ OnP x r s := fun x => (h x).symm.trans ((hi x).trans (k x))
    obtain ⟨t, t0, t1, ht⟩ := on_iff.1 ((e r).2 (on_left _ _))
    obtain ⟨z, z0, z1, hz⟩ := on_iff.1 ((e s).2 (on_right _ _))
    have hp := (e p).1 (on_left _ _)
    have hq := (e q).1 (on_right _ _)
    rw [ht, hz] at hp hq
    have hp' := (on_line (a := p) hu 0 t z).1 (by rwa [ad_zero])
    have hq' := (on_line (a := p) hu 1 t z).1 (by rwa [ad_one])
    unfold Btw at hp' hq'
    have hcase : (t = 0 ∧ z = 1) ∨ (t = 1 ∧ z = 0) := by grind
    rcases hcase with ⟨rfl, rfl⟩ | ⟨rfl, rfl⟩
    · rw [ad_zero] at ht
      rw [ad_one] at hz
      rw [ht, hz]
    · rw [ad_one] at ht
      rw [ad_zero] at hz
      rw [ht, hz] at hf'
      exact absurd hf' (by grind)
/-- How many they are hangs on what is in common alone. -/
theorem meets_len {a b c d a' b' c' d' : Pq} {l m : List Pq} (h : Meets a b c d l) (k : Meets a' b' c' d' m) (hi : ∀ x, Com a b c d x ↔ Com a' b' c' d' x) : l.length = m.length := by
  rcases h with ⟨rfl, h⟩ | ⟨p, rfl, h⟩ | ⟨p, q, rfl, hne, hf, h⟩ <;> rcases k with ⟨rfl, k⟩ | ⟨r, rfl, k⟩ | ⟨r, s, rfl, hne', hf', k⟩
  · rfl
  · exact absurd ((hi r).2 ((k r).2 rfl)) (h r)
  · exact absurd ((hi r).2 ((k r).2 (on_left _ _))) (h r)
  · exact absurd ((hi p).1 ((h p).2 rfl)) (k p)
  · rfl
  · have h1 := (h r).1 ((hi r).2 ((k r).2 (on_left _ _)))
    have h2 := (h s).1 ((hi s).2 ((k s).2 (on_right _ _)))
    exact absurd (h1.trans h2.symm) hne'
  · exact absurd ((hi p).1 ((h p).2 (on_left _ _))) (k p)
  · have h1 := (k p).1 ((hi p).1 ((h p).2 (on_left _ _)))
    have h2 := (k q).1 ((hi q).1 ((h q).2 (on_right _ _)))
    exact absurd (h1.trans h2.symm) hne
  · rfl
/-- The places from 0 to 1 that lie between two: from the one end to the other. -/
theorem places (g h : Rat) : ∃ lo hi : Rat, (∀ t, ((0 ≤ t ∧ t ≤ 1) ∧ Btw t g h) ↔ lo ≤ t ∧ t ≤ hi) ∧ (∀ z, z = lo ∨ z = hi → lo ≤ hi → z = 0 ∨ z = 1 ∨ z = g ∨ z = h) ∧ 0 ≤ lo ∧ ∀ t, (t = 0 ∨ t = 1 ∨ t = g ∨ t = h) → lo ≤ t ∧ t ≤ hi → t = lo ∨ t = hi := by
  have key : ∀ g h : Rat, g ≤ h → ∃ lo hi : Rat, (∀ t, ((0 ≤ t ∧ t ≤ 1) ∧ (g ≤ t ∧ t ≤ h)) ↔ lo ≤ t ∧ t ≤ hi) ∧ (∀ z, z = lo ∨ z = hi → lo ≤ hi → z = 0 ∨ z = 1 ∨ z = g ∨ z = h) ∧ 0 ≤ lo ∧ ∀ t, (t = 0 ∨ t = 1 ∨ t = g ∨ t = h) → lo ≤ t ∧ t ≤ hi → t = lo ∨ t = hi := fun g h hgh => by
    by_cases h1 : 0 ≤ g <;> by_cases h2 : h ≤ 1
    · exact ⟨g, h, fun t => by grind, fun z hz _ => by grind, h1, fun t ht hl => by grind⟩
    · exact ⟨g, 1, fun t => by grind, fun z hz _ => by grind, h1, fun t ht hl => by grind⟩
    · exact ⟨0, h, fun t => by grind, fun z hz _ => by grind, Rat.le_refl, fun t ht hl => by grind⟩
    · exact ⟨0, 1, fun t => by grind, fun z hz _ => by grind, Rat.le_refl, fun t ht hl => by grind⟩
  by_cases hgh : g ≤ h
  · obtain ⟨lo, hi, k1, k2, k3, k4⟩ := key g h hgh
    refine ⟨lo, hi, fun t => ?_, k2, k3, k4⟩
    rw [← k1]
    unfold Btw
    grind
  · obtain ⟨lo, hi, k1, k2, k3, k4⟩ := key h g (by grind)
    refine ⟨lo, hi, fun t => ?_, fun z hz hl => by have := k2 z hz hl; grind, k3, fun t ht => k4 t (by grind)⟩
    rw [← k1]
    unfold Btw
    grind
/-- Along one direction: what is in common lies between two of the ends. -/
theorem par_ends {a b c d : Pq} (hk : crs (sbP b a) (sbP d c) = 0) : (∀ x, ¬ Com a b c d x) ∨ ∃ p q, (p = a ∨ p = b ∨ p = c ∨ p = d) ∧ (q = a ∨ q = b ∨ q = c ∨ q = d) ∧ (∀ x, Com a b c d x ↔ OnP x p q) ∧ (p = q ∨ farP p a < farP q a) ∧
    ∀ x, (x = a ∨ x = b ∨ x = c ∨ x = d) → Com a b c d x → x = p ∨ x = q := by
  by_cases hab : a = b
  · subst hab
    by_cases h : OnP a c d
    · refine .inr ⟨a, a, .inl rfl, .inl rfl, fun x => ?_, .inl rfl, fun x _ hx => .inl (on_point.1 hx.1)⟩
      unfold Com
      rw [on_point]
      exact ⟨fun h => h.1, fun e => by subst e; exact ⟨rfl, h⟩⟩
    · exact .inl fun x hx => h (by have := on_point.1 hx.1; subst this; exact hx.2)
  · by_cases hcd : c = d
    · subst hcd
      by_cases h : OnP c a b
      · refine .inr ⟨c, c, .inr (.inr (.inl rfl)), .inr (.inr (.inl rfl)), fun x => ?_, .inl rfl, fun x _ hx => .inl (on_point.1 hx.2)⟩
        unfold Com
        rw [on_point]
        exact ⟨fun h => h.2, fun e => by subst e; exact ⟨h, rfl⟩⟩
      · exact .inl fun x hx => h (by have := on_point.1 hx.2; subst this; exact hx.1)
    · obtain ⟨u, hue⟩ : ∃ u, sbP b a = u := ⟨_, rfl⟩
      have hu : u ≠ (0, 0) := fun e => hab (by
        rw [← hue] at e
        unfold sbP at e
        simp only [Prod.mk.injEq] at e
        exact Prod.ext (by grind) (by grind))
      have hb : b = adP a 1 u := by rw [← hue, ad_one]
      have ha : a = adP a 0 u := (ad_zero _ _).symm
      have hl : ∃ k, sbP d c = (k * u.1, k * u.2) := by
        rw [hue] at hk
        unfold crs at hk
        obtain ⟨v, hv⟩ : ∃ v, sbP d c = v := ⟨_, rfl⟩
        rw [hv] at hk ⊢
        by_cases hx : u.1 = 0
        · have hy : u.2 ≠ 0 := fun hy => hu (Prod.ext hx hy)
          have h3 : v.2 / u.2 * u.2 = v.2 := Rat.div_mul_cancel hy
          refine ⟨v.2 / u.2, Prod.ext ?_ h3.symm⟩
          have : u.2 * v.1 = u.2 * 0 := by grind
          have := mul_cancel hy this
          dsimp only
          rw [this, hx]
          grind
        · have h3 : v.1 / u.1 * u.1 = v.1 := Rat.div_mul_cancel hx
          refine ⟨v.1 / u.1, Prod.ext h3.symm ?_⟩
          obtain ⟨q, hq⟩ : ∃ q, v.1 / u.1 = q := ⟨_, rfl⟩
          rw [hq] at h3 ⊢
          dsimp only
          refine mul_cancel hx ?_
          have : u.1 * (q * u.2) = (q * u.1) * u.2 := by grind
          rw [this, h3]
          grind
      obtain ⟨k, hk2⟩ := hl
      have hd : d = adP c k u := by
        unfold sbP at hk2
        simp only [Prod.mk.injEq] at hk2
        unfold adP
        apply Prod.ext <;> dsimp only <;> grind
      by_cases hline : ∃ g, c = adP a g u
      · obtain ⟨g, hg⟩ := hline
        have hd2 : d = adP a (g + k) u := by
          rw [hd, hg]
          unfold adP
          apply Prod.ext <;> dsimp only <;> grind
        have hcom : ∀ t, Com a b c d (adP a t u) ↔ (0 ≤ t ∧ t ≤ 1) ∧ Btw t g (g + k) := fun t => by
          have h1 := on_line (a := a) hu t 0 1
          have h2 := on_line (a := a) hu t g (g + k)
          rw [← ha, ← hb] at h1
          rw [← hg, ← hd2] at h2
          unfold Com
          rw [h1, h2]
          unfold Btw
          grind
        have hpar : ∀ x, Com a b c d x → ∃ t, x = adP a t u := fun x hx => by
          obtain ⟨t, _, _, h⟩ := on_iff.1 hx.1
          rw [hue] at h
          exact ⟨t, h⟩
        obtain ⟨lo, hi, hset, hends, h0lo, hin⟩ := places g (g + k)
        by_cases hle : lo ≤ hi
        · have ends : ∀ z : Rat, z = lo ∨ z = hi → adP a z u = a ∨ adP a z u = b ∨ adP a z u = c ∨ adP a z u = d := fun z hz => by
            have : z = 0 ∨ z = 1 ∨ z = g ∨ z = g + k := hends z hz hle
            rcases this with rfl | rfl | rfl | rfl
            · exact .inl ha.symm
            · exact .inr (.inl hb.symm)
            · exact .inr (.inr (.inl hg.symm))
            · exact .inr (.inr (.inr hd2.symm))
          refine .inr ⟨adP a lo u, adP a hi u, ends lo (.inl rfl), ends hi (.inr rfl), fun x => ?_, ?_, fun x hx hc => ?_⟩
          · constructor
            · intro hc
              obtain ⟨t, rfl⟩ := hpar x hc
              exact (on_line hu t lo hi).2 (.inl ((hset t).1 ((hcom t).1 hc)))
            · intro ho
              have hex : ∃ t, x = adP a t u := by
                obtain ⟨s, s0, s1, rfl⟩ := on_iff.1 ho
                refine ⟨lo + s * (hi - lo), ?_⟩
                unfold adP sbP
                apply Prod.ext <;> dsimp only <;> grind
              obtain ⟨t, rfl⟩ := hex
              have := (on_line hu t lo hi).1 ho
              refine (hcom t).2 ((hset t).2 ?_)
              unfold Btw at this
              grind
          · by_cases he : lo = hi
            · exact .inl (by rw [he])
            · exact .inr (far_lt hu h0lo (by grind))
          · obtain ⟨t, rfl⟩ := hpar x hc
            have h1 := (hset t).1 ((hcom t).1 hc)
            have h2 : t = 0 ∨ t = 1 ∨ t = g ∨ t = g + k := by
              rcases hx with h | h | h | h
              · exact .inl (ad_inj hu (h.trans ha))
              · exact .inr (.inl (ad_inj hu (h.trans hb)))
              · exact .inr (.inr (.inl (ad_inj hu (h.trans hg))))
              · exact .inr (.inr (.inr (ad_inj hu (h.trans hd2))))
            have h3 : t = lo ∨ t = hi := hin t h2 h1
            rcases h3 with rfl | rfl
            · exact .inl rfl
            · exact .inr rfl
        · refine .inl fun x hc => ?_
          obtain ⟨t, rfl⟩ := hpar x hc
          have := (hset t).1 ((hcom t).1 hc)
          grind
      · refine .inl fun x hx => hline ?_
        obtain ⟨t, _, _, h1⟩ := on_iff.1 hx.1
        obtain ⟨s, _, _, h2⟩ := on_iff.1 hx.2
        rw [hue] at h1
        rw [hk2] at h2
        refine ⟨t - s * k, ?_⟩
        have h3 := h1.symm.trans h2
        unfold adP at h3 ⊢
        simp only [Prod.mk.injEq] at h3
        apply Prod.ext <;> dsimp only <;> grind
end Go.Proofs.YtaaehcohmdojgaaGreatDoor.Sg
