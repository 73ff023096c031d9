/-
  Maps: six fractions (printed by gen_maa.py).
-/
import Derived.Test.YtafmfnpjhhaikaaGreatDoorZat
import Derived.Test.YtafmfnpjhhaikaaGreatDoorZas
import Derived.Deep.MidRow
import Derived.Conc.MuLone
namespace Go.Proofs.YtafmfnpjhhaikaaGreatDoor
open Go.RowKit Go.Shelf

def MS (k : Nat) (w : World) (v : Value) (a b c d e f : Rat) : Prop := ∃ s1 u1 d1 s2 u2 d2 s3 u3 d3 s4 u4 d4 s5 u5 d5 s6 u6 d6, v = .agg #[s1, u1, d1, s2, u2, d2, s3, u3, d3, s4, u4, d4, s5, u5, d5, s6, u6, d6] ∧ RS k w (.agg #[s1, u1, d1]) a ∧ RS k w (.agg #[s2, u2, d2]) b ∧ RS k w (.agg #[s3, u3, d3]) c ∧ RS k w (.agg #[s4, u4, d4]) d ∧ RS k w (.agg #[s5, u5, d5]) e ∧ RS k w (.agg #[s6, u6, d6]) f
def MN (k : Nat) (w : World) (v : Value) (a b c d e f : Rat) : Prop := ∃ s1 u1 d1 s2 u2 d2 s3 u3 d3 s4 u4 d4 s5 u5 d5 s6 u6 d6, v = .agg #[s1, u1, d1, s2, u2, d2, s3, u3, d3, s4, u4, d4, s5, u5, d5, s6, u6, d6] ∧ RN k w (.agg #[s1, u1, d1]) a ∧ RN k w (.agg #[s2, u2, d2]) b ∧ RN k w (.agg #[s3, u3, d3]) c ∧ RN k w (.agg #[s4, u4, d4]) d ∧ RN k w (.agg #[s5, u5, d5]) e ∧ RN k w (.agg #[s6, u6, d6]) f
section
variable {w w' : World} {v : Value} {k : Nat} {a b c d e f : Rat}
theorem MS.bel (h : MS k w v a b c d e f) (hb : Bel w w') : MS k w' v a b c d e f := by
  obtain ⟨s1, u1, d1, s2, u2, d2, s3, u3, d3, s4, u4, d4, s5, u5, d5, s6, u6, d6, h0, h1, h2, h3, h4, h5, h6⟩ := h
  exact ⟨s1, u1, d1, s2, u2, d2, s3, u3, d3, s4, u4, d4, s5, u5, d5, s6, u6, d6, h0, h1.bel hb, h2.bel hb, h3.bel hb, h4.bel hb, h5.bel hb, h6.bel hb⟩
theorem MS.lim (h : MS k w v a b c d e f) (hl : Lim w w') : MS k w' v a b c d e f := by
  obtain ⟨s1, u1, d1, s2, u2, d2, s3, u3, d3, s4, u4, d4, s5, u5, d5, s6, u6, d6, h0, h1, h2, h3, h4, h5, h6⟩ := h
  exact ⟨s1, u1, d1, s2, u2, d2, s3, u3, d3, s4, u4, d4, s5, u5, d5, s6, u6, d6, h0, h1.lim hl, h2.lim hl, h3.lim hl, h4.lim hl, h5.lim hl, h6.lim hl⟩
theorem MS.mono (h : MS k w v a b c d e f) {m : Nat} (hm : k ≤ m) : MS m w v a b c d e f := by
  obtain ⟨s1, u1, d1, s2, u2, d2, s3, u3, d3, s4, u4, d4, s5, u5, d5, s6, u6, d6, h0, h1, h2, h3, h4, h5, h6⟩ := h
  exact ⟨s1, u1, d1, s2, u2, d2, s3, u3, d3, s4, u4, d4, s5, u5, d5, s6, u6, d6, h0, h1.mono hm, h2.mono hm, h3.mono hm, h4.mono hm, h5.mono hm, h6.mono hm⟩
theorem MN.bel (h : MN k w v a b c d e f) (hb : Bel w w') : MN k w' v a b c d e f := by
  obtain ⟨s1, u1, d1, s2, u2, d2, s3, u3, d3, s4, u4, d4, s5, u5, d5, s6, u6, d6, h0, h1, h2, h3, h4, h5, h6⟩ := h
  exact ⟨s1, u1, d1, s2, u2, d2, s3, u3, d3, s4, u4, d4, s5, u5, d5, s6, u6, d6, h0, h1.bel hb, h2.bel hb, h3.bel hb, h4.bel hb, h5.bel hb, h6.bel hb⟩
theorem MN.lim (h : MN k w v a b c d e f) (hl : Lim w w') : MN k w' v a b c d e f := by
  obtain ⟨s1, u1, d1, s2, u2, d2, s3, u3, d3, s4, u4, d4, s5, u5, d5, s6, u6, d6, h0, h1, h2, h3, h4, h5, h6⟩ := h
  exact ⟨s1, u1, d1, s2, u2, d2, s3, u3, d3, s4, u4, d4, s5, u5, d5, s6, u6, d6, h0, h1.lim hl, h2.lim hl, h3.lim hl, h4.lim hl, h5.lim hl, h6.lim hl⟩
theorem MN.mono (h : MN k w v a b c d e f) {m : Nat} (hm : k ≤ m) : MN m w v a b c d e f := by
  obtain ⟨s1, u1, d1, s2, u2, d2, s3, u3, d3, s4, u4, d4, s5, u5, d5, s6, u6, d6, h0, h1, h2, h3, h4, h5, h6⟩ := h
  exact ⟨s1, u1, d1, s2, u2, d2, s3, u3, d3, s4, u4, d4, s5, u5, d5, s6, u6, d6, h0, h1.mono hm, h2.mono hm, h3.mono hm, h4.mono hm, h5.mono hm, h6.mono hm⟩
theorem MS.parts (h : MS k w v a b c d e f) : ∃ s1 p1 k1 c1 q1 j1 d1 s2 p2 k2 c2 q2 j2 d2 s3 p3 k3 c3 q3 j3 d3 s4 p4 k4 c4 q4 j4 d4 s5 p5 k5 c5 q5 j5 d5 s6 p6 k6 c6 q6 j6 d6, v = .agg #[.bool s1, .slice p1 k1 c1, .slice q1 j1 d1, .bool s2, .slice p2 k2 c2, .slice q2 j2 d2, .bool s3, .slice p3 k3 c3, .slice q3 j3 d3, .bool s4, .slice p4 k4 c4, .slice q4 j4 d4, .bool s5, .slice p5 k5 c5, .slice q5 j5 d5, .bool s6, .slice p6 k6 c6, .slice q6 j6 d6] ∧ RS k w (.agg #[.bool s1, .slice p1 k1 c1, .slice q1 j1 d1]) a ∧ RS k w (.agg #[.bool s2, .slice p2 k2 c2, .slice q2 j2 d2]) b ∧ RS k w (.agg #[.bool s3, .slice p3 k3 c3, .slice q3 j3 d3]) c ∧ RS k w (.agg #[.bool s4, .slice p4 k4 c4, .slice q4 j4 d4]) d ∧ RS k w (.agg #[.bool s5, .slice p5 k5 c5, .slice q5 j5 d5]) e ∧ RS k w (.agg #[.bool s6, .slice p6 k6 c6, .slice q6 j6 d6]) f := by
  obtain ⟨s1, u1, d1, s2, u2, d2, s3, u3, d3, s4, u4, d4, s5, u5, d5, s6, u6, d6, rfl, h1, h2, h3, h4, h5, h6⟩ := h
  obtain ⟨s1, p1, k1, c1, q1, j1, d1, e1⟩ := h1.parts
  simp only [Value.agg.injEq, Array.mk.injEq, List.cons.injEq, and_true] at e1
  obtain ⟨rfl, rfl, rfl⟩ := e1
  obtain ⟨s2, p2, k2, c2, q2, j2, d2, e2⟩ := h2.parts
  simp only [Value.agg.injEq, Array.mk.injEq, List.cons.injEq, and_true] at e2
  obtain ⟨rfl, rfl, rfl⟩ := e2
  obtain ⟨s3, p3, k3, c3, q3, j3, d3, e3⟩ := h3.parts
  simp only [Value.agg.injEq, Array.mk.injEq, List.cons.injEq, and_true] at e3
  obtain ⟨rfl, rfl, rfl⟩ := e3
  obtain ⟨s4, p4, k4, c4, q4, j4, d4, e4⟩ := h4.parts
  simp only [Value.agg.injEq, Array.mk.injEq, List.cons.injEq, and_true] at e4
  obtain ⟨rfl, rfl, rfl⟩ := e4
  obtain ⟨s5, p5, k5, c5, q5, j5, d5, e5⟩ := h5.parts
  simp only [Value.agg.injEq, Array.mk.injEq, List.cons.injEq, and_true] at e5
  obtain ⟨rfl, rfl, rfl⟩ := e5
  obtain ⟨s6, p6, k6, c6, q6, j6, d6, e6⟩ := h6.parts
  simp only [Value.agg.injEq, Array.mk.injEq, List.cons.injEq, and_true] at e6
  obtain ⟨rfl, rfl, rfl⟩ := e6
  exact ⟨s1, p1, k1, c1, q1, j1, d1, s2, p2, k2, c2, q2, j2, d2, s3, p3, k3, c3, q3, j3, d3, s4, p4, k4, c4, q4, j4, d4, s5, p5, k5, c5, q5, j5, d5, s6, p6, k6, c6, q6, j6, d6, rfl, h1, h2, h3, h4, h5, h6⟩
theorem MS.split {z0 z1 z2 z3 z4 z5 z6 z7 z8 z9 z10 z11 z12 z13 z14 z15 z16 z17 : Value} (h : MS k w (.agg #[z0, z1, z2, z3, z4, z5, z6, z7, z8, z9, z10, z11, z12, z13, z14, z15, z16, z17]) a b c d e f) : RS k w (.agg #[z0, z1, z2]) a ∧ RS k w (.agg #[z3, z4, z5]) b ∧ RS k w (.agg #[z6, z7, z8]) c ∧ RS k w (.agg #[z9, z10, z11]) d ∧ RS k w (.agg #[z12, z13, z14]) e ∧ RS k w (.agg #[z15, z16, z17]) f := by
  obtain ⟨s1, u1, d1, s2, u2, d2, s3, u3, d3, s4, u4, d4, s5, u5, d5, s6, u6, d6, h0, h1, h2, h3, h4, h5, h6⟩ := h
  simp only [Value.agg.injEq, Array.mk.injEq, List.cons.injEq, and_true] at h0
  obtain ⟨rfl, rfl, rfl, rfl, rfl, rfl, rfl, rfl, rfl, rfl, rfl, rfl, rfl, rfl, rfl, rfl, rfl, rfl⟩ := h0
  exact ⟨h1, h2, h3, h4, h5, h6⟩
theorem MN.parts (h : MN k w v a b c d e f) : ∃ s1 p1 k1 c1 q1 j1 d1 s2 p2 k2 c2 q2 j2 d2 s3 p3 k3 c3 q3 j3 d3 s4 p4 k4 c4 q4 j4 d4 s5 p5 k5 c5 q5 j5 d5 s6 p6 k6 c6 q6 j6 d6, v = .agg #[.bool s1, .slice p1 k1 c1, .slice q1 j1 d1, .bool s2, .slice p2 k2 c2, .slice q2 j2 d2, .bool s3, .slice p3 k3 c3, .slice q3 j3 d3, .bool s4, .slice p4 k4 c4, .slice q4 j4 d4, .bool s5, .slice p5 k5 c5, .slice q5 j5 d5, .bool s6, .slice p6 k6 c6, .slice q6 j6 d6] ∧ RN k w (.agg #[.bool s1, .slice p1 k1 c1, .slice q1 j1 d1]) a ∧ RN k w (.agg #[.bool s2, .slice p2 k2 c2, .slice q2 j2 d2]) b ∧ RN k w (.agg #[.bool s3, .slice p3 k3 c3, .slice q3 j3 d3]) c ∧ RN k w (.agg #[.bool s4, .slice p4 k4 c4, .slice q4 j4 d4]) d ∧ RN k w (.agg #[.bool s5, .slice p5 k5 c5, .slice q5 j5 d5]) e ∧ RN k w (.agg #[.bool s6, .slice p6 k6 c6, .slice q6 j6 d6]) f := by
  obtain ⟨s1, u1, d1, s2, u2, d2, s3, u3, d3, s4, u4, d4, s5, u5, d5, s6, u6, d6, rfl, h1, h2, h3, h4, h5, h6⟩ := h
  obtain ⟨s1, p1, k1, c1, q1, j1, d1, e1⟩ := h1.parts
  simp only [Value.agg.injEq, Array.mk.injEq, List.cons.injEq, and_true] at e1
  obtain ⟨rfl, rfl, rfl⟩ := e1
  obtain ⟨s2, p2, k2, c2, q2, j2, d2, e2⟩ := h2.parts
  simp only [Value.agg.injEq, Array.mk.injEq, List.cons.injEq, and_true] at e2
  obtain ⟨rfl, rfl, rfl⟩ := e2
  obtain ⟨s3, p3, k3, c3, q3, j3, d3, e3⟩ := h3.parts
  simp only [Value.agg.injEq, Array.mk.injEq, List.cons.injEq, and_true] at e3
  obtain ⟨rfl, rfl, rfl⟩ := e3
  obtain ⟨s4, p4, k4, c4, q4, j4, d4, e4⟩ := h4.parts
  simp only [Value.agg.injEq, Array.mk.injEq, List.cons.injEq, and_true] at e4
  obtain ⟨rfl, rfl, rfl⟩ := e4
  obtain ⟨s5, p5, k5, c5, q5, j5, d5, e5⟩ := h5.parts
  simp only [Value.agg.injEq, Array.mk.injEq, List.cons.injEq, and_true] at e5
  obtain ⟨rfl, rfl, rfl⟩ := e5
  obtain ⟨s6, p6, k6, c6, q6, j6, d6, e6⟩ := h6.parts
  simp only [Value.agg.injEq, Array.mk.injEq, List.cons.injEq, and_true] at e6
  obtain ⟨rfl, rfl, rfl⟩ := e6
  exact ⟨s1, p1, k1, c1, q1, j1, d1, s2, p2, k2, c2, q2, j2, d2, s3, p3, k3, c3, q3, j3, d3, s4, p4, k4, c4, q4, j4, d4, s5, p5, k5, c5, q5, j5, d5, s6, p6, k6, c6, q6, j6, d6, rfl, h1, h2, h3, h4, h5, h6⟩
theorem MN.split {z0 z1 z2 z3 z4 z5 z6 z7 z8 z9 z10 z11 z12 z13 z14 z15 z16 z17 : Value} (h : MN k w (.agg #[z0, z1, z2, z3, z4, z5, z6, z7, z8, z9, z10, z11, z12, z13, z14, z15, z16, z17]) a b c d e f) : RN k w (.agg #[z0, z1, z2]) a ∧ RN k w (.agg #[z3, z4, z5]) b ∧ RN k w (.agg #[z6, z7, z8]) c ∧ RN k w (.agg #[z9, z10, z11]) d ∧ RN k w (.agg #[z12, z13, z14]) e ∧ RN k w (.agg #[z15, z16, z17]) f := by
  obtain ⟨s1, u1, d1, s2, u2, d2, s3, u3, d3, s4, u4, d4, s5, u5, d5, s6, u6, d6, h0, h1, h2, h3, h4, h5, h6⟩ := h
  simp only [Value.agg.injEq, Array.mk.injEq, List.cons.injEq, and_true] at h0
  obtain ⟨rfl, rfl, rfl, rfl, rfl, rfl, rfl, rfl, rfl, rfl, rfl, rfl, rfl, rfl, rfl, rfl, rfl, rfl⟩ := h0
  exact ⟨h1, h2, h3, h4, h5, h6⟩
end
theorem ms_mk {k : Nat} {w : World} {z0 z1 z2 z3 z4 z5 z6 z7 z8 z9 z10 z11 z12 z13 z14 z15 z16 z17 : Value} {a b c d e f : Rat} (h1 : RS k w (.agg #[z0, z1, z2]) a) (h2 : RS k w (.agg #[z3, z4, z5]) b) (h3 : RS k w (.agg #[z6, z7, z8]) c) (h4 : RS k w (.agg #[z9, z10, z11]) d) (h5 : RS k w (.agg #[z12, z13, z14]) e) (h6 : RS k w (.agg #[z15, z16, z17]) f) : MS k w (.agg #[z0, z1, z2, z3, z4, z5, z6, z7, z8, z9, z10, z11, z12, z13, z14, z15, z16, z17]) a b c d e f := ⟨_, _, _, _, _, _, _, _, _, _, _, _, _, _, _, _, _, _, rfl, h1, h2, h3, h4, h5, h6⟩
theorem rs_zero (w : World) : RS 1 w (.agg #[.bool false, .slice none 0 0, .slice none 0 0]) 0 := ⟨⟨false, _, _, 0, 0, rfl, ni_nil w, ni_nil w, by decide +kernel⟩, by decide, by decide⟩
theorem PN.split {k : Nat} {w : World} {c1 c2 c3 c4 c5 c6 : Value} {x y : Rat} (h : PN k w (.agg #[c1, c2, c3, c4, c5, c6]) x y) : RN k w (.agg #[c1, c2, c3]) x ∧ RN k w (.agg #[c4, c5, c6]) y := by
  obtain ⟨⟨s1, u1, d1, s2, u2, d2, h0, h1, h2⟩, hx, hy⟩ := h
  simp only [Value.agg.injEq, Array.mk.injEq, List.cons.injEq, and_true] at h0
  obtain ⟨rfl, rfl, rfl, rfl, rfl, rfl⟩ := h0
  exact ⟨⟨h1, hx⟩, h2, hy⟩
/-- A value and what came of it. -/
def Tup (Φ : Value → World → Prop) (c : Value) (v : Value) (w : World) : Prop := ∃ u, v = .tuple #[u, c] ∧ Φ u w
theorem Tup.bel {Φ : Value → World → Prop} {c v : Value} {w w' : World} (h : Tup Φ c v w) (hs : ∀ v w w', Φ v w → Bel w w' → Φ v w') (hb : Bel w w') : Tup Φ c v w' := by
  obtain ⟨u, h1, h2⟩ := h
  exact ⟨u, h1, hs _ _ _ h2 hb⟩
theorem au_rdiv {w : World} {a b : Value} {x y : Rat} {i j : Nat} (ha : RS i w a x) (hb : RS j w b y) (hl : i + j < LimK) (h0 : y ≠ 0) : Calls Tryz.prog 87 #[a, b] w (Makes w (Tup (fun v w' => RN (i + j) w' v (x / y)) (.int .i64 0))) := by
  have hn : y.num ≠ 0 := fun h => h0 (Rat.num_eq_zero.1 h)
  refine (mk_rdiv ha hb hl h0).mono fun _ _ h => h.imp fun _ h => ?_
  obtain ⟨u, h1, h2⟩ := h
  exact ⟨u, h1, h2, ha.2.div hb.2 hn⟩
theorem au_rdiv0 {w : World} {a b : Value} {x y : Rat} {i j : Nat} (ha : RS i w a x) (hb : RS j w b y) (hl : i + j < LimK) (h0 : y = 0) : Calls Tryz.prog 87 #[a, b] w (Makes w fun v _ => v = .tuple #[.agg #[.bool false, .slice none 0 0, .slice none 0 0], .int .i64 12]) := mk_rdiv0 ha hb hl h0
end Go.Proofs.YtafmfnpjhhaikaaGreatDoor

/-
  How a map came in.
-/
namespace Go.Proofs.YtafmfnpjhhaikaaGreatDoor
open Go.ChangeShapes Go.WideShapes Go.ChangeAt Go.WideMaps Go.WideElems Go.RowKit Go.Deep

theorem cellsMat : Tryz.prog.cellsOf 72 = 18 := by kernel_rfl
theorem matTypes : Tryz.prog.cellTypes Tryz.prog.depth 72 = some [4, 22, 22, 4, 22, 22, 4, 22, 22, 4, 22, 22, 4, 22, 22, 4, 22, 22] := by kernel_rfl
set_option maxRecDepth 100000 in
theorem mat_open {H : Type} {enc : TypeId × Value → H} {W : World} {n : Nat} {cs : List Value} {x : DataW H × List MemPlace} (h : DataW.trod enc Tryz.prog W 0 (fun _ => true) true n 72 cs = some x) :
    cs.length = 18 ∧ ∀ i, i < 6 → ∃ y m, DataW.trod enc Tryz.prog W 0 (fun _ => true) true m 26 ((cs.drop (i * 3)).take 3) = some y := by
  obtain ⟨xs, m, _, -, hl, hlen, hf⟩ := DataW.trod_struct Tryz.underlying72 h
  rw [cellsMat] at hl
  refine ⟨hl, fun i hi => ?_⟩
  match xs, hlen, i, hi with
  | [y0, y1, y2, y3, y4, y5], _, 0, _ => have h : DataW.trod enc Tryz.prog W 0 (fun _ => true) true m 26 ((cs.drop (0 * Tryz.prog.cellsOf 26)).take (Tryz.prog.cellsOf 26)) = some y0 := hf 0 _ rfl; rw [cellsRat] at h; exact ⟨y0, m, h⟩
  | [y0, y1, y2, y3, y4, y5], _, 1, _ => have h : DataW.trod enc Tryz.prog W 0 (fun _ => true) true m 26 ((cs.drop (1 * Tryz.prog.cellsOf 26)).take (Tryz.prog.cellsOf 26)) = some y1 := hf 1 _ rfl; rw [cellsRat] at h; exact ⟨y1, m, h⟩
  | [y0, y1, y2, y3, y4, y5], _, 2, _ => have h : DataW.trod enc Tryz.prog W 0 (fun _ => true) true m 26 ((cs.drop (2 * Tryz.prog.cellsOf 26)).take (Tryz.prog.cellsOf 26)) = some y2 := hf 2 _ rfl; rw [cellsRat] at h; exact ⟨y2, m, h⟩
  | [y0, y1, y2, y3, y4, y5], _, 3, _ => have h : DataW.trod enc Tryz.prog W 0 (fun _ => true) true m 26 ((cs.drop (3 * Tryz.prog.cellsOf 26)).take (Tryz.prog.cellsOf 26)) = some y3 := hf 3 _ rfl; rw [cellsRat] at h; exact ⟨y3, m, h⟩
  | [y0, y1, y2, y3, y4, y5], _, 4, _ => have h : DataW.trod enc Tryz.prog W 0 (fun _ => true) true m 26 ((cs.drop (4 * Tryz.prog.cellsOf 26)).take (Tryz.prog.cellsOf 26)) = some y4 := hf 4 _ rfl; rw [cellsRat] at h; exact ⟨y4, m, h⟩
  | [y0, y1, y2, y3, y4, y5], _, 5, _ => have h : DataW.trod enc Tryz.prog W 0 (fun _ => true) true m 26 ((cs.drop (5 * Tryz.prog.cellsOf 26)).take (Tryz.prog.cellsOf 26)) = some y5 := hf 5 _ rfl; rw [cellsRat] at h; exact ⟨y5, m, h⟩
set_option maxRecDepth 100000 in
theorem opened_mat {H : Type} {enc : TypeId × Value → H} {W : World} {r : Reach} {base : Nat} {v : Value} {d : DataW H} {p : List MemPlace} (h : DataW.Trod enc Tryz.prog W 0 (fun _ => true) true 72 v d p) (hv : Value.okWide Tryz.prog W r base 72 v) :
    ∃ x y z : Rp, v = .agg (x.row ++ y.row ++ z.row).toArray ∧ PtIn W x ∧ PtIn W y ∧ PtIn W z := by
  simp only [Value.okWide, Tryz.underlying72] at hv
  obtain ⟨cs, rfl, -, ts, hts, -, hall⟩ := hv
  rw [matTypes] at hts
  simp only [Option.some.injEq] at hts
  subst hts
  obtain ⟨n, hn⟩ := h
  obtain ⟨hl, hx⟩ := mat_open hn
  change cs.toList.length = 18 at hl
  change ∀ i, i < 6 → ∃ y m, DataW.trod enc Tryz.prog W 0 (fun _ => true) true m 26 ((cs.toList.drop (i * 3)).take 3) = some y at hx
  have hg : ∀ i, i < 6 → ∃ (s : Bool) (p : Option Addr) (k c : Nat) (q : Option Addr) (j d : Nat), (cs.toList.drop (i * 3)).take 3 = [.bool s, .slice p k c, .slice q j d] ∧ (∃ l : List Nat, l.length = k ∧ R64 W (.slice p k c) l) ∧ ∃ l : List Nat, l.length = j ∧ R64 W (.slice q j d) l := fun i hi => by
    obtain ⟨y, m, h1⟩ := hx i hi
    exact rat_open h1
  obtain ⟨s0, p0, k0, c0, q0, j0, d0, a0, b0, e0⟩ := hg 0 (by omega)
  obtain ⟨s1, p1, k1, c1, q1, j1, d1, a1, b1, e1⟩ := hg 1 (by omega)
  obtain ⟨s2, p2, k2, c2, q2, j2, d2, a2, b2, e2⟩ := hg 2 (by omega)
  obtain ⟨s3, p3, k3, c3, q3, j3, d3, a3, b3, e3⟩ := hg 3 (by omega)
  obtain ⟨s4, p4, k4, c4, q4, j4, d4, a4, b4, e4⟩ := hg 4 (by omega)
  obtain ⟨s5, p5, k5, c5, q5, j5, d5, a5, b5, e5⟩ := hg 5 (by omega)
  have hcs : cs = (Rp.row ⟨s0, p0, k0, c0, q0, j0, d0, s1, p1, k1, c1, q1, j1, d1⟩ ++ Rp.row ⟨s2, p2, k2, c2, q2, j2, d2, s3, p3, k3, c3, q3, j3, d3⟩ ++ Rp.row ⟨s4, p4, k4, c4, q4, j4, d4, s5, p5, k5, c5, q5, j5, d5⟩).toArray := by
    have : cs.toList = Rp.row ⟨s0, p0, k0, c0, q0, j0, d0, s1, p1, k1, c1, q1, j1, d1⟩ ++ Rp.row ⟨s2, p2, k2, c2, q2, j2, d2, s3, p3, k3, c3, q3, j3, d3⟩ ++ Rp.row ⟨s4, p4, k4, c4, q4, j4, d4, s5, p5, k5, c5, q5, j5, d5⟩ := by
      generalize cs.toList = L at hl a0 a1 a2 a3 a4 a5 ⊢
      match L, hl with
      | [x0, x1, x2, x3, x4, x5, x6, x7, x8, x9, x10, x11, x12, x13, x14, x15, x16, x17], _ =>
        simp only [Nat.reduceMul, List.drop_zero, List.drop_succ_cons, List.take_succ_cons, List.take_zero, List.cons.injEq, and_true] at a0 a1 a2 a3 a4 a5
        obtain ⟨rfl, rfl, rfl⟩ := a0
        obtain ⟨rfl, rfl, rfl⟩ := a1
        obtain ⟨rfl, rfl, rfl⟩ := a2
        obtain ⟨rfl, rfl, rfl⟩ := a3
        obtain ⟨rfl, rfl, rfl⟩ := a4
        obtain ⟨rfl, rfl, rfl⟩ := a5
        rfl
    rw [← this]
  clear a0 a1 a2 a3 a4 a5 hl hx hg hn
  subst hcs
  have hc : ∀ (i : Nat) (p : Option Addr) (k c : Nat), (Rp.row ⟨s0, p0, k0, c0, q0, j0, d0, s1, p1, k1, c1, q1, j1, d1⟩ ++ Rp.row ⟨s2, p2, k2, c2, q2, j2, d2, s3, p3, k3, c3, q3, j3, d3⟩ ++ Rp.row ⟨s4, p4, k4, c4, q4, j4, d4, s5, p5, k5, c5, q5, j5, d5⟩)[i]? = some (.slice p k c) → ([4, 22, 22, 4, 22, 22, 4, 22, 22, 4, 22, 22, 4, 22, 22, 4, 22, 22] : List TypeId)[i % 18]? = some 22 → PlainP p := fun i p k c hi ht => by
    obtain ⟨u', hu, hok⟩ := hall i _ (by rw [List.getElem?_toArray]; exact hi)
    simp only [List.length_cons, List.length_nil, Nat.zero_add, Nat.reduceAdd] at hu
    rw [ht] at hu
    cases hu
    exact plain_cell hok
  exact ⟨_, _, _, rfl, ⟨⟨⟨hc 1 _ _ _ rfl rfl, b0⟩, hc 2 _ _ _ rfl rfl, e0⟩, ⟨hc 4 _ _ _ rfl rfl, b1⟩, hc 5 _ _ _ rfl rfl, e1⟩, ⟨⟨⟨hc 7 _ _ _ rfl rfl, b2⟩, hc 8 _ _ _ rfl rfl, e2⟩, ⟨hc 10 _ _ _ rfl rfl, b3⟩, hc 11 _ _ _ rfl rfl, e3⟩, ⟨⟨hc 13 _ _ _ rfl rfl, b4⟩, hc 14 _ _ _ rfl rfl, e4⟩, ⟨hc 16 _ _ _ rfl rfl, b5⟩, hc 17 _ _ _ rfl rfl, e5⟩
end Go.Proofs.YtafmfnpjhhaikaaGreatDoor

/-
  The evaluator's values: what cells stand for, and that it stays so.
-/
namespace Go.Proofs.YtafmfnpjhhaikaaGreatDoor
open Go.RowKit Go.Shelf

/-- What stands in a cell, or in some: a value as it is (told by the text, or reckoned), numbers, a box of the call's own, rows that can be read. -/
inductive U where
  | lit (v : Value)
  | sym (v : Value)
  | nat (n k : Nat)
  | zed (x : Int) (k : Nat)
  | rat (q : Rat) (k : Nat)
  | rd (q : Rat) (k : Nat)
  | raw (a b c : Value) (q : Rat) (k : Nat)
  | ptr (b o : Nat)
  | rn (n : Nat)
  | rz (x : Int)
  | rq (q : Rat)
  | sl (l : List Value) (n m : Nat)
  | pts (l : List (Rat × Rat)) (k : Nat)
  | ept (l : List (Rat × Rat)) (k i : Nat)
  | any
abbrev V := List U
inductive T where
  | one (v : V)
  | tup (l : List V)
/-- The blocks that are the calls' own alone, and the boxes among them by their numbers. -/
structure Ctx where
  S : Nat → Prop
  β : Nat → Option Nat
def PtsAt (S : Nat → Prop) (w : World) (G o : Nat) (l : List (Rat × Rat)) (k : Nat) : Prop :=
  ∀ (i : Nat) (x : Rat × Rat), l[i]? = some x → ¬ S G ∧ ∃ r : List Value, r.length = 6 ∧ (∀ j u, r[j]? = some u → w.cell? ⟨G, o + 6 * i + j, none⟩ = some u) ∧ PS k w (.agg r.toArray) x.1 x.2
def U.size : U → Nat
  | .zed _ _ | .rz _ => 2
  | .rat _ _ | .rd _ _ | .raw _ _ _ _ _ | .rq _ => 3
  | _ => 1
def U.rel (C : Ctx) (w : World) : U → List Value → Prop
  | .lit v, cs | .sym v, cs => cs = [v]
  | .nat n k, cs => ∃ v, cs = [v] ∧ NC w v n ∧ n < B64 ^ k
  | .zed x k, cs => ∃ a b, cs = [a, b] ∧ ZC w (.agg #[a, b]) x ∧ x.natAbs < B64 ^ k
  | .rat q k, cs => ∃ a b c, cs = [a, b, c] ∧ RN k w (.agg #[a, b, c]) q ∧ k ≤ LimK
  | .rd q k, cs => ∃ a b c, cs = [a, b, c] ∧ RS k w (.agg #[a, b, c]) q
  | .raw a b c q k, cs => cs = [a, b, c] ∧ RS k w (.agg #[a, b, c]) q
  | .ptr b o, cs => ∃ r, C.β b = some r ∧ cs = [.pointer (some ⟨r, o, none⟩)]
  | .rn n, cs => ∃ v, cs = [v] ∧ NR w v n
  | .rz x, cs => ∃ a b, cs = [a, b] ∧ RZ w (.agg #[a, b]) x
  | .rq q, cs => ∃ a b c, cs = [a, b, c] ∧ RQ w (.agg #[a, b, c]) q
  | .sl l n m, cs => ∃ G, cs = [.slice (some ⟨G, 0, none⟩) n n] ∧ l.length = n * m ∧ ∀ i u, l[i]? = some u → ¬ C.S G ∧ w.cell? ⟨G, i, none⟩ = some u
  | .pts l k, cs => ∃ p c, cs = [.slice p l.length c] ∧ l.length ≤ c ∧ (l ≠ [] → ∃ G o, p = some ⟨G, o, none⟩ ∧ PtsAt C.S w G o l k)
  | .ept l k i, cs => ∃ G o, cs = [.pointer (some ⟨G, o + 6 * i, none⟩)] ∧ PtsAt C.S w G o l k
  | .any, cs => ∃ v, cs = [v]
def V.rel (C : Ctx) (w : World) : V → List Value → Prop
  | [], cs => cs = []
  | u :: us, cs => ∃ c1 c2, cs = c1 ++ c2 ∧ u.rel C w c1 ∧ V.rel C w us c2
def V.size : V → Nat
  | [] => 0
  | u :: us => u.size + V.size us
def pack : List Value → Value
  | [v] => v
  | cs => .agg cs.toArray
def V.has (C : Ctx) (w : World) (x : V) (v : Value) : Prop := ∃ cs, x.rel C w cs ∧ v = pack cs
def V.hasAll (C : Ctx) (w : World) : List V → List Value → Prop
  | [], vs => vs = []
  | x :: xs, vs => ∃ v r, vs = v :: r ∧ x.has C w v ∧ V.hasAll C w xs r
def T.rel (C : Ctx) (w : World) : T → Value → Prop
  | .one x, v => x.has C w v
  | .tup l, v => ∃ vs, v = .tuple vs.toArray ∧ V.hasAll C w l vs
/-- What was there stays, but for blocks of the calls' own; the limbs stay everywhere. -/
structure Stp (S : Nat → Prop) (w w' : World) : Prop where
  size : w.heap.size ≤ w'.heap.size
  lim : Lim w w'
  keep : ∀ b o, w.heap[b]? = some o → ¬ S b → w'.heap[b]? = some o
theorem Stp.refl (S : Nat → Prop) (w : World) : Stp S w w := ⟨Nat.le_refl _, Lim.refl w, fun _ _ h _ => h⟩
theorem Stp.trans {S : Nat → Prop} {a b c : World} (h : Stp S a b) (k : Stp S b c) : Stp S a c := ⟨Nat.le_trans h.size k.size, h.lim.trans k.lim, fun r o ho hs => k.keep r o (h.keep r o ho hs) hs⟩
theorem Bel.stp {w w' : World} (h : Bel w w') (S : Nat → Prop) : Stp S w w' := ⟨h.size, h.lim, fun _ _ ho _ => h.heap ho⟩
theorem Stp.cell {S : Nat → Prop} {w w' : World} (h : Stp S w w') {b o : Nat} {v : Value} (hs : ¬ S b) (hc : w.cell? ⟨b, o, none⟩ = some v) : w'.cell? ⟨b, o, none⟩ = some v := by
  have hb := World.block_lt_of_cell? w ⟨b, o, none⟩ hc
  have h1 := h.keep b _ (Array.getElem?_eq_getElem hb) hs
  have h2 : w'.heap[b]? = w.heap[b]? := h1.trans (Array.getElem?_eq_getElem hb).symm
  exact (World.cell?_of_block (a := ⟨b, o, none⟩) h2).trans hc
theorem U.rel_len {C : Ctx} {w : World} {u : U} {cs : List Value} (h : u.rel C w cs) : cs.length = u.size := by
  cases u <;> simp only [U.rel] at h
  case lit => subst h; rfl
  case sym => subst h; rfl
  case nat => obtain ⟨_, rfl, _⟩ := h; rfl
  case zed => obtain ⟨_, _, rfl, _⟩ := h; rfl
  case rat => obtain ⟨_, _, _, rfl, _⟩ := h; rfl
  case rd => obtain ⟨_, _, _, rfl, _⟩ := h; rfl
  case raw => obtain ⟨rfl, _⟩ := h; rfl
  case ptr => obtain ⟨_, _, rfl⟩ := h; rfl
  case rn => obtain ⟨_, rfl, _⟩ := h; rfl
  case rz => obtain ⟨_, _, rfl, _⟩ := h; rfl
  case rq => obtain ⟨_, _, _, rfl, _⟩ := h; rfl
  case sl => obtain ⟨_, rfl, _⟩ := h; rfl
  case pts => obtain ⟨_, _, rfl, _⟩ := h; rfl
  case ept => obtain ⟨_, _, rfl, _⟩ := h; rfl
  case any => obtain ⟨_, rfl⟩ := h; rfl
theorem V.rel_len {C : Ctx} {w : World} : ∀ {x : V} {cs : List Value}, x.rel C w cs → cs.length = x.size
  | [], cs, h => by simp only [V.rel] at h; subst h; rfl
  | u :: us, cs, h => by
    obtain ⟨c1, c2, rfl, h1, h2⟩ := h
    rw [List.length_append, U.rel_len h1, V.rel_len h2]
    rfl
theorem PtsAt.stp {S : Nat → Prop} {w w' : World} {G o k : Nat} {l : List (Rat × Rat)} (h : PtsAt S w G o l k) (hs : Stp S w w') : PtsAt S w' G o l k := fun i x hx => by
  obtain ⟨h1, r, h2, h3, h4⟩ := h i x hx
  exact ⟨h1, r, h2, fun j u hj => hs.cell h1 (h3 j u hj), h4.lim hs.lim⟩
theorem U.rel_stp {C : Ctx} {w w' : World} {u : U} {cs : List Value} (h : u.rel C w cs) (hs : Stp C.S w w') : u.rel C w' cs := by
  cases u <;> simp only [U.rel] at h ⊢
  case lit => exact h
  case sym => exact h
  case nat => obtain ⟨v, h1, h2, h3⟩ := h; exact ⟨v, h1, h2.lim hs.lim, h3⟩
  case zed => obtain ⟨a, b, h1, h2, h3⟩ := h; exact ⟨a, b, h1, h2.lim hs.lim, h3⟩
  case rat => obtain ⟨a, b, c, h1, h2, h3⟩ := h; exact ⟨a, b, c, h1, h2.lim hs.lim, h3⟩
  case rd => obtain ⟨a, b, c, h1, h2⟩ := h; exact ⟨a, b, c, h1, h2.lim hs.lim⟩
  case raw => exact ⟨h.1, h.2.lim hs.lim⟩
  case ptr => exact h
  case rn => obtain ⟨v, h1, h2⟩ := h; exact ⟨v, h1, h2.lim hs.lim⟩
  case rz => obtain ⟨a, b, h1, h2⟩ := h; exact ⟨a, b, h1, h2.lim hs.lim⟩
  case rq => obtain ⟨a, b, c, h1, h2⟩ := h; exact ⟨a, b, c, h1, h2.lim hs.lim⟩
  case sl => obtain ⟨G, h1, h2, h3⟩ := h; exact ⟨G, h1, h2, fun i u hi => ⟨(h3 i u hi).1, hs.cell (h3 i u hi).1 (h3 i u hi).2⟩⟩
  case pts =>
    obtain ⟨p, c, h1, h2, h3⟩ := h
    exact ⟨p, c, h1, h2, fun hne => by obtain ⟨G, o, h4, h5⟩ := h3 hne; exact ⟨G, o, h4, h5.stp hs⟩⟩
  case ept => obtain ⟨G, o, h1, h2⟩ := h; exact ⟨G, o, h1, h2.stp hs⟩
  case any => exact h
/-- More boxes, and more blocks of the calls' own. -/
structure Ctx.le (w : World) (C C' : Ctx) : Prop where
  box : ∀ i r, C.β i = some r → C'.β i = some r
  own : ∀ b, b < w.heap.size → C'.S b → C.S b
theorem Ctx.le_refl (w : World) (C : Ctx) : Ctx.le w C C := ⟨fun _ _ h => h, fun _ _ h => h⟩
theorem PtsAt.le {S S' : Nat → Prop} {w : World} {G o k : Nat} {l : List (Rat × Rat)} (h : PtsAt S w G o l k) (hs : ∀ b, b < w.heap.size → S' b → S b) : PtsAt S' w G o l k := fun i x hx => by
  obtain ⟨h1, r, h2, h3, h4⟩ := h i x hx
  obtain ⟨u, hu⟩ : ∃ u, r[0]? = some u := ⟨_, List.getElem?_eq_getElem (by omega)⟩
  exact ⟨fun h => h1 (hs G (World.block_lt_of_cell? w _ (h3 0 u hu)) h), r, h2, h3, h4⟩
theorem U.rel_le {C C' : Ctx} {w : World} {u : U} {cs : List Value} (h : u.rel C w cs) (hs : Ctx.le w C C') : u.rel C' w cs := by
  cases u <;> simp only [U.rel] at h ⊢ <;> try exact h
  case ptr => obtain ⟨r, h1, h2⟩ := h; exact ⟨r, hs.box _ _ h1, h2⟩
  case sl => obtain ⟨G, h1, h2, h3⟩ := h; exact ⟨G, h1, h2, fun i u hi => ⟨fun h => (h3 i u hi).1 (hs.own G (World.block_lt_of_cell? w _ (h3 i u hi).2) h), (h3 i u hi).2⟩⟩
  case pts =>
    obtain ⟨p, c, h1, h2, h3⟩ := h
    exact ⟨p, c, h1, h2, fun hne => by obtain ⟨G, o, h4, h5⟩ := h3 hne; exact ⟨G, o, h4, h5.le hs.own⟩⟩
  case ept => obtain ⟨G, o, h1, h2⟩ := h; exact ⟨G, o, h1, h2.le hs.own⟩
section
variable {C C' : Ctx} {w w' : World}
theorem V.rel_stp : ∀ {x : V} {cs : List Value}, x.rel C w cs → Stp C.S w w' → x.rel C w' cs
  | [], _, h, _ => h
  | _ :: _, _, h, hs => by
    obtain ⟨c1, c2, h0, h1, h2⟩ := h
    exact ⟨c1, c2, h0, U.rel_stp h1 hs, V.rel_stp h2 hs⟩
theorem V.rel_le : ∀ {x : V} {cs : List Value}, x.rel C w cs → Ctx.le w C C' → x.rel C' w cs
  | [], _, h, _ => h
  | _ :: _, _, h, hs => by
    obtain ⟨c1, c2, h0, h1, h2⟩ := h
    exact ⟨c1, c2, h0, U.rel_le h1 hs, V.rel_le h2 hs⟩
theorem V.has_stp {x : V} {v : Value} (h : x.has C w v) (hs : Stp C.S w w') : x.has C w' v := let ⟨cs, h1, h2⟩ := h; ⟨cs, V.rel_stp h1 hs, h2⟩
theorem V.has_le {x : V} {v : Value} (h : x.has C w v) (hs : Ctx.le w C C') : x.has C' w v := let ⟨cs, h1, h2⟩ := h; ⟨cs, V.rel_le h1 hs, h2⟩
theorem V.all_stp : ∀ {l : List V} {vs : List Value}, V.hasAll C w l vs → Stp C.S w w' → V.hasAll C w' l vs
  | [], _, h, _ => h
  | _ :: _, _, h, hs => by obtain ⟨v, r, h0, h1, h2⟩ := h; exact ⟨v, r, h0, V.has_stp h1 hs, V.all_stp h2 hs⟩
theorem V.all_le : ∀ {l : List V} {vs : List Value}, V.hasAll C w l vs → Ctx.le w C C' → V.hasAll C' w l vs
  | [], _, h, _ => h
  | _ :: _, _, h, hs => by obtain ⟨v, r, h0, h1, h2⟩ := h; exact ⟨v, r, h0, V.has_le h1 hs, V.all_le h2 hs⟩
theorem T.rel_stp {t : T} {v : Value} (h : t.rel C w v) (hs : Stp C.S w w') : t.rel C w' v := by
  cases t with
  | one x => exact V.has_stp h hs
  | tup l => obtain ⟨vs, h1, h2⟩ := h; exact ⟨vs, h1, V.all_stp h2 hs⟩
theorem T.rel_le {t : T} {v : Value} (h : t.rel C w v) (hs : Ctx.le w C C') : t.rel C' w v := by
  cases t with
  | one x => exact V.has_le h hs
  | tup l => obtain ⟨vs, h1, h2⟩ := h; exact ⟨vs, h1, V.all_le h2 hs⟩
end
end Go.Proofs.YtafmfnpjhhaikaaGreatDoor

/-
  The evaluator's memory: what is read out of a box's cells, what is put there.
-/
namespace Go.Proofs.YtafmfnpjhhaikaaGreatDoor
open Go.RowKit Go.Shelf

/-- A number in its cells. -/
def U.parts : U → V
  | .rat q k => [.sym (.bool (decide (q.num < 0))), .nat q.num.natAbs k, .nat q.den k]
  | .zed x k => [.sym (.bool (decide (x < 0))), .nat x.natAbs k]
  | .raw a b c _ _ => [.sym a, .sym b, .sym c]
  | .rq q => [.sym (.bool (decide (q.num < 0))), .rn q.num.natAbs, .rn q.den]
  | .rz x => [.sym (.bool (decide (x < 0))), .rn x.natAbs]
  | u => [u]
def V.open : V → V
  | [] => []
  | u :: r => u.parts ++ V.open r
def V.takeN : V → Nat → Option V
  | [], n => bif n == 0 then some [] else none
  | u :: r, n => bif n == 0 then some [] else bif u.size.ble n then (V.takeN r (n - u.size)).map (u :: ·) else none
def V.dropN : V → Nat → Option V
  | [], n => bif n == 0 then some [] else none
  | u :: r, n => bif n == 0 then some (u :: r) else bif u.size.ble n then V.dropN r (n - u.size) else none
def V.grab1 (c : V) (o n : Nat) : Option V := (V.dropN c o).bind (V.takeN · n)
def V.grab (c : V) (o n : Nat) : Option V := match V.grab1 c o n with | some x => some x | none => V.grab1 (V.open c) o n
def V.put1 : V → Nat → Nat → V → Option V
  | [], o, n, x => bif o == 0 && n == 0 then some x else none
  | u :: r, o, n, x => bif o == 0 then (V.dropN (u :: r) n).map (x ++ ·) else bif u.size.ble o then (V.put1 r (o - u.size) n x).map (u :: ·) else none
def V.put (c : V) (o n : Nat) (x : V) : Option V := match V.put1 c o n x with | some y => some y | none => V.put1 (V.open c) o n x
/-- A cell that holds no limb. -/
def plainV : Value → Bool
  | .bool _ | .string _ | .pointer _ | .slice _ _ _ | .func _ _ _ | .nilFunc => true
  | .int .u64 _ | .int .u32 _ => false
  | .int _ _ => true
  | _ => false
def U.fine : U → Bool
  | .lit v | .sym v => plainV v
  | .raw a b c _ _ => plainV a && plainV b && plainV c
  | .any => false
  | _ => true
def V.fine : V → Bool
  | [] => true
  | u :: r => u.fine && V.fine r
theorem plain_one {v : Value} (h : plainV v = true) : v.oneCell' = true := by
  cases v <;> first | rfl | cases h
theorem plain_noNum : ∀ {l : List Value}, (∀ v ∈ l, plainV v = true) → noNum l = true
  | [], _ => rfl
  | v :: l, h => by
    have h1 := h v (by simp)
    have h2 := plain_noNum (l := l) (fun u hu => h u (by simp [hu]))
    cases v with
    | int k x => cases k <;> first | exact h2 | cases h1
    | _ => exact h2
section
variable {C : Ctx} {w : World}
theorem U.parts_rel {u : U} {cs : List Value} (h : u.rel C w cs) : V.rel C w u.parts cs := by
  have self : ∀ u : U, u.rel C w cs → V.rel C w [u] cs := fun u h => ⟨cs, [], by simp, h, rfl⟩
  cases u <;> first | exact self _ h | skip
  case rat q k =>
    obtain ⟨a, b, c, rfl, ⟨h1, h2⟩, -⟩ := h
    obtain ⟨x, y, he, h3, h4⟩ := h1
    simp only [Value.agg.injEq, Array.mk.injEq, List.cons.injEq, and_true] at he
    obtain ⟨rfl, rfl, rfl⟩ := he
    exact ⟨[_], [_, _], rfl, rfl, [_], [_], rfl, ⟨_, rfl, h3, h2.1⟩, [_], [], rfl, ⟨_, rfl, h4, h2.2⟩, rfl⟩
  case zed x k =>
    obtain ⟨a, b, rfl, h1, h2⟩ := h
    obtain ⟨u, he, h3⟩ := h1
    simp only [Value.agg.injEq, Array.mk.injEq, List.cons.injEq, and_true] at he
    obtain ⟨rfl, rfl⟩ := he
    exact ⟨[_], [_], rfl, rfl, [_], [], rfl, ⟨_, rfl, h3, h2⟩, rfl⟩
  case raw a b c q k =>
    obtain ⟨rfl, -⟩ := h
    exact ⟨[_], [_, _], rfl, rfl, [_], [_], rfl, rfl, [_], [], rfl, rfl, rfl⟩
  case rq q =>
    obtain ⟨a, b, c, rfl, h1⟩ := h
    obtain ⟨x, y, he, h3, h4⟩ := h1
    simp only [Value.agg.injEq, Array.mk.injEq, List.cons.injEq, and_true] at he
    obtain ⟨rfl, rfl, rfl⟩ := he
    exact ⟨[_], [_, _], rfl, rfl, [_], [_], rfl, ⟨_, rfl, h3⟩, [_], [], rfl, ⟨_, rfl, h4⟩, rfl⟩
  case rz x =>
    obtain ⟨a, b, rfl, h1⟩ := h
    obtain ⟨u, he, h3⟩ := h1
    simp only [Value.agg.injEq, Array.mk.injEq, List.cons.injEq, and_true] at he
    obtain ⟨rfl, rfl⟩ := he
    exact ⟨[_], [_], rfl, rfl, [_], [], rfl, ⟨_, rfl, h3⟩, rfl⟩
theorem V.rel_append : ∀ {x y : V} {cs ds : List Value}, x.rel C w cs → y.rel C w ds → V.rel C w (x ++ y) (cs ++ ds)
  | [], _, _, _, hx, hy => by simp only [V.rel] at hx; subst hx; exact hy
  | u :: r, y, _, ds, hx, hy => by
    obtain ⟨c1, c2, rfl, h1, h2⟩ := hx
    exact ⟨c1, c2 ++ ds, by simp, h1, V.rel_append h2 hy⟩
theorem V.open_rel : ∀ {x : V} {cs : List Value}, x.rel C w cs → V.rel C w x.open cs
  | [], _, h => h
  | u :: r, _, h => by
    obtain ⟨c1, c2, rfl, h1, h2⟩ := h
    exact V.rel_append (U.parts_rel h1) (V.open_rel h2)
theorem V.takeN_rel : ∀ {c : V} {cs : List Value} {n : Nat} {x : V}, c.rel C w cs → V.takeN c n = some x → n ≤ cs.length ∧ x.rel C w (cs.take n)
  | [], cs, n, x, h, he => by
    simp only [V.takeN] at he
    cases hn : n == 0
    · rw [hn] at he; cases he
    · rw [hn] at he
      simp only [beq_iff_eq] at hn
      subst hn
      cases he
      exact ⟨Nat.zero_le _, rfl⟩
  | u :: r, cs, n, x, h, he => by
    simp only [V.takeN] at he
    cases hn : n == 0
    · rw [hn] at he
      simp only [cond_false] at he
      cases hu : u.size.ble n
      · rw [hu] at he; cases he
      · rw [hu] at he
        simp only [cond_true] at he
        have hle := Nat.le_of_ble_eq_true hu
        obtain ⟨c1, c2, rfl, h1, h2⟩ := h
        have hl := U.rel_len h1
        cases hr : V.takeN r (n - u.size) with
        | none => rw [hr] at he; cases he
        | some y =>
          rw [hr] at he
          cases he
          obtain ⟨h3, h4⟩ := V.takeN_rel h2 hr
          refine ⟨by simp; omega, c1, c2.take (n - u.size), ?_, h1, h4⟩
          rw [List.take_append, List.take_of_length_le (by omega), hl]
    · rw [hn] at he
      simp only [beq_iff_eq] at hn
      subst hn
      cases he
      exact ⟨Nat.zero_le _, rfl⟩
theorem V.dropN_rel : ∀ {c : V} {cs : List Value} {n : Nat} {x : V}, c.rel C w cs → V.dropN c n = some x → n ≤ cs.length ∧ x.rel C w (cs.drop n)
  | [], cs, n, x, h, he => by
    simp only [V.dropN] at he
    cases hn : n == 0
    · rw [hn] at he; cases he
    · rw [hn] at he
      simp only [beq_iff_eq] at hn
      subst hn
      cases he
      exact ⟨Nat.zero_le _, by simpa using h⟩
  | u :: r, cs, n, x, h, he => by
    simp only [V.dropN] at he
    cases hn : n == 0
    · rw [hn] at he
      simp only [cond_false] at he
      cases hu : u.size.ble n
      · rw [hu] at he; cases he
      · rw [hu] at he
        simp only [cond_true] at he
        have hle := Nat.le_of_ble_eq_true hu
        obtain ⟨c1, c2, rfl, h1, h2⟩ := h
        have hl := U.rel_len h1
        obtain ⟨h3, h4⟩ := V.dropN_rel h2 he
        refine ⟨by simp; omega, ?_⟩
        rw [List.drop_append, List.drop_of_length_le (by omega), hl]
        exact h4
    · rw [hn] at he
      simp only [beq_iff_eq] at hn
      subst hn
      cases he
      exact ⟨Nat.zero_le _, by simpa using h⟩
theorem V.grab1_rel {c : V} {cs : List Value} {o n : Nat} {x : V} (h : c.rel C w cs) (he : V.grab1 c o n = some x) : o + n ≤ cs.length ∧ x.rel C w ((cs.drop o).take n) := by
  unfold V.grab1 at he
  cases hd : V.dropN c o with
  | none => rw [hd] at he; cases he
  | some y =>
    rw [hd] at he
    obtain ⟨h1, h2⟩ := V.dropN_rel h hd
    obtain ⟨h3, h4⟩ := V.takeN_rel h2 he
    rw [List.length_drop] at h3
    exact ⟨by omega, h4⟩
theorem V.grab_rel {c : V} {cs : List Value} {o n : Nat} {x : V} (h : c.rel C w cs) (he : V.grab c o n = some x) : o + n ≤ cs.length ∧ x.rel C w ((cs.drop o).take n) := by
  unfold V.grab at he
  split at he
  · rename_i y hy
    cases he
    exact V.grab1_rel h hy
  · exact V.grab1_rel (V.open_rel h) he
theorem V.put1_rel : ∀ {c : V} {cs : List Value} {o n : Nat} {x c' : V} {vs : List Value}, c.rel C w cs → V.put1 c o n x = some c' → x.rel C w vs → vs.length = n → ∃ p old s, cs = p ++ old ++ s ∧ p.length = o ∧ old.length = n ∧ c'.rel C w (p ++ vs ++ s)
  | [], cs, o, n, x, c', vs, h, he, hx, hn => by
    simp only [V.put1] at he
    cases hb : (o == 0 && n == 0)
    · rw [hb] at he; cases he
    · rw [hb] at he
      simp only [Bool.and_eq_true, beq_iff_eq] at hb
      obtain ⟨rfl, rfl⟩ := hb
      cases he
      simp only [V.rel] at h
      subst h
      have := List.length_eq_zero_iff.1 hn
      subst this
      exact ⟨[], [], [], rfl, rfl, rfl, hx⟩
  | u :: r, cs, o, n, x, c', vs, h, he, hx, hn => by
    simp only [V.put1] at he
    cases ho : o == 0
    · rw [ho] at he
      simp only [cond_false] at he
      cases hu : u.size.ble o
      · rw [hu] at he; cases he
      · rw [hu] at he
        simp only [cond_true] at he
        have hle := Nat.le_of_ble_eq_true hu
        obtain ⟨c1, c2, rfl, h1, h2⟩ := h
        have hl := U.rel_len h1
        cases hr : V.put1 r (o - u.size) n x with
        | none => rw [hr] at he; cases he
        | some y =>
          rw [hr] at he
          cases he
          obtain ⟨p, old, s, rfl, h3, h4, h5⟩ := V.put1_rel h2 hr hx hn
          exact ⟨c1 ++ p, old, s, by simp, by simp; omega, h4, c1, p ++ vs ++ s, by simp, h1, h5⟩
    · rw [ho] at he
      simp only [beq_iff_eq] at ho
      subst ho
      simp only [cond_true] at he
      cases hd : V.dropN (u :: r) n with
      | none => rw [hd] at he; cases he
      | some y =>
        rw [hd] at he
        cases he
        obtain ⟨h1, h2⟩ := V.dropN_rel h hd
        exact ⟨[], cs.take n, cs.drop n, by simp, rfl, by rw [List.length_take]; omega, V.rel_append hx h2⟩
theorem V.put_rel {c : V} {cs : List Value} {o n : Nat} {x c' : V} {vs : List Value} (h : c.rel C w cs) (he : V.put c o n x = some c') (hx : x.rel C w vs) (hn : vs.length = n) : ∃ p old s, cs = p ++ old ++ s ∧ p.length = o ∧ old.length = n ∧ c'.rel C w (p ++ vs ++ s) := by
  unfold V.put at he
  split at he
  · rename_i y hy
    cases he
    exact V.put1_rel h hy hx hn
  · exact V.put1_rel (V.open_rel h) he hx hn
theorem U.plain {u : U} {cs : List Value} (h : u.rel C w cs) (hf : u.fine = true) : ∀ v ∈ cs, plainV v = true := by
  have hs : ∀ {n : Nat} {v : Value}, NC w v n → plainV v = true := fun h => by obtain ⟨p, c, rfl, _⟩ := h; rfl
  have hi : ∀ {n : Nat} {v : Value}, NI w v n → plainV v = true := fun h => by obtain ⟨p, c, l, rfl, _⟩ := h; rfl
  have hr : ∀ {n : Nat} {v : Value}, NR w v n → plainV v = true := fun h => by obtain ⟨p, c, rfl, _⟩ := h; rfl
  cases u <;> simp only [U.rel] at h
  case lit v => subst h; intro u hu; simp at hu; subst hu; exact hf
  case sym v => subst h; intro u hu; simp at hu; subst hu; exact hf
  case nat => obtain ⟨v, rfl, h1, _⟩ := h; intro u hu; simp at hu; subst hu; exact hs h1
  case zed =>
    obtain ⟨a, b, rfl, ⟨x, he, h1⟩, _⟩ := h
    simp only [Value.agg.injEq, Array.mk.injEq, List.cons.injEq, and_true] at he
    obtain ⟨rfl, rfl⟩ := he
    intro u hu; simp at hu; rcases hu with rfl | rfl
    · rfl
    · exact hs h1
  case rat =>
    obtain ⟨a, b, c, rfl, ⟨⟨x, y, he, h1, h2⟩, _⟩, _⟩ := h
    simp only [Value.agg.injEq, Array.mk.injEq, List.cons.injEq, and_true] at he
    obtain ⟨rfl, rfl, rfl⟩ := he
    intro u hu; simp at hu; rcases hu with rfl | rfl | rfl
    · rfl
    · exact hs h1
    · exact hs h2
  case rd =>
    obtain ⟨a, b, c, rfl, ⟨s, x, y, _, _, he, h1, h2, _⟩, _⟩ := h
    simp only [Value.agg.injEq, Array.mk.injEq, List.cons.injEq, and_true] at he
    obtain ⟨rfl, rfl, rfl⟩ := he
    intro u hu; simp at hu; rcases hu with rfl | rfl | rfl
    · rfl
    · exact hi h1
    · exact hi h2
  case raw a b c q k =>
    obtain ⟨rfl, _⟩ := h
    simp only [U.fine, Bool.and_eq_true] at hf
    intro u hu; simp at hu; rcases hu with rfl | rfl | rfl
    · exact hf.1.1
    · exact hf.1.2
    · exact hf.2
  case ptr => obtain ⟨_, _, rfl⟩ := h; intro u hu; simp at hu; subst hu; rfl
  case rn => obtain ⟨v, rfl, h1⟩ := h; intro u hu; simp at hu; subst hu; exact hr h1
  case rz =>
    obtain ⟨a, b, rfl, ⟨x, he, h1⟩⟩ := h
    simp only [Value.agg.injEq, Array.mk.injEq, List.cons.injEq, and_true] at he
    obtain ⟨rfl, rfl⟩ := he
    intro u hu; simp at hu; rcases hu with rfl | rfl
    · rfl
    · exact hr h1
  case rq =>
    obtain ⟨a, b, c, rfl, ⟨x, y, he, h1, h2⟩⟩ := h
    simp only [Value.agg.injEq, Array.mk.injEq, List.cons.injEq, and_true] at he
    obtain ⟨rfl, rfl, rfl⟩ := he
    intro u hu; simp at hu; rcases hu with rfl | rfl | rfl
    · rfl
    · exact hr h1
    · exact hr h2
  case sl => obtain ⟨_, rfl, _⟩ := h; intro u hu; simp at hu; subst hu; rfl
  case pts => obtain ⟨_, _, rfl, _⟩ := h; intro u hu; simp at hu; subst hu; rfl
  case ept => obtain ⟨_, _, rfl, _⟩ := h; intro u hu; simp at hu; subst hu; rfl
  case any => cases hf
theorem V.plain : ∀ {x : V} {cs : List Value}, x.rel C w cs → x.fine = true → ∀ v ∈ cs, plainV v = true
  | [], cs, h, _ => by simp only [V.rel] at h; subst h; simp
  | u :: r, cs, h, hf => by
    obtain ⟨c1, c2, rfl, h1, h2⟩ := h
    simp only [V.fine, Bool.and_eq_true] at hf
    intro v hv
    rcases List.mem_append.1 hv with hv | hv
    · exact U.plain h1 hf.1 v hv
    · exact V.plain h2 hf.2 v hv
end
end Go.Proofs.YtafmfnpjhhaikaaGreatDoor

/-
  The evaluator's operations: what each one yields, told ahead; that the machine yields it.
-/
namespace Go.Proofs.YtafmfnpjhhaikaaGreatDoor
open Go.RowKit Go.Shelf

def look {α : Type} : List (Nat × α) → Nat → Option α
  | [], _ => none
  | (k, a) :: r, n => bif k == n then some a else look r n
def nth {α : Type} : List α → Nat → Option α
  | [], _ => none
  | a :: _, 0 => some a
  | _ :: l, n + 1 => nth l n
theorem nth_eq {α : Type} : ∀ (l : List α) (n : Nat), nth l n = l[n]?
  | [], _ => rfl
  | _ :: _, 0 => rfl
  | _ :: l, n + 1 => by rw [List.getElem?_cons_succ]; exact nth_eq l n
inductive Kd where
  | str (offs szs : List Nat)
  | arr (n sz : Nat)
  | slc (sz : Nat)
  | int (k : IntKind)
  | bool
  | other
structure Ty where
  size : Nat
  zero : V
  kd : Kd
structure Box where
  ty : TypeId
  us : V
structure St where
  slots : List (Option T)
  boxes : List (Nat × Box)
  next : Nat
/-- What comes out: by cases, under conditions. -/
inductive Out (α : Type) where
  | fail
  | leaf (x : α)
  | need (p : Prop) (k : Out α)
  | chk (b : Bool) (k : Out α)
  | br (b : Bool) (x y : Out α)
abbrev Con := List V → Out T
structure Env where
  P : Program
  con : List (FuncId × Con)
  ty : List (TypeId × Ty)
/-- What an operation does: it yields a value, makes a box, writes into one, calls. -/
inductive Eff where
  | val (t : T)
  | new (B : Box)
  | put (b o n : Nat) (x c : V)
  | call (f : FuncId) (args : List V)
/-! ### Types -/
def Kd.row : Kd → Bool
  | .str _ _ | .arr _ _ => true
  | _ => false
def rowAt (P : Program) (t : TypeId) : Option (Nat × Bool) := match P.info? t, P.underlying t with
  | some i, some d => some (i.size, d.isRow)
  | _, _ => none
def DescOk (P : Program) : TypeDesc → Kd → Prop
  | .struct fs, .str offs szs => fs.toList.map (·.offset) = offs ∧ fs.toList.map (fun f => rowAt P f.type) = szs.map (fun n => some (n, !(n == 1))) ∧ 0 ∉ szs
  | .array n e, .arr m sz => n = m ∧ rowAt P e = some (sz, !(sz == 1))
  | .slice e, .slc sz => (P.info? e).map (fun i => (i.size, i.zero.isSome)) = some (sz, true)
  | .int k, .int k' => k = k'
  | .bool, .bool => True
  | .struct _, .other | .array _ _, .other => False
  | _, .other => True
  | _, _ => False
structure TyOk (P : Program) (t : TypeId) (y : Ty) : Prop where
  info : ∃ i, P.info? t = some i ∧ i.size = y.size ∧ ∃ z, i.zero = some z ∧ z.cells.size = y.size ∧ ∀ C w, y.zero.rel C w z.cells.toList
  desc : ∃ d, P.underlying t = some d ∧ DescOk P d y.kd
  row : y.kd.row = !(y.size == 1)
  fine : y.zero.fine = true
theorem DescOk.isRow {P : Program} {d : TypeDesc} {k : Kd} (h : DescOk P d k) : d.isRow = k.row := by
  cases d <;> cases k <;> first | rfl | exact h.elim
/-! ### Values -/
def intBin (op : BinOp) (k : IntKind) (x y : Int) : Option Value :=
  match op with
  | .add => some (.int k (k.wrap (x + y)))
  | .sub => some (.int k (k.wrap (x - y)))
  | .mul => some (.int k (k.wrap (x * y)))
  | .eql => some (.bool (x == y))
  | .neq => some (.bool (x != y))
  | .lss => some (.bool (decide (x < y)))
  | .leq => some (.bool (decide (x ≤ y)))
  | .gtr => some (.bool (decide (x > y)))
  | .geq => some (.bool (decide (x ≥ y)))
  | _ => none
def strBin (op : BinOp) (x y : ByteArray) : Option Value :=
  match op with
  | .eql => some (.bool (x.toList == y.toList))
  | .neq => some (.bool (!(x.toList == y.toList)))
  | _ => none
def boolBin (op : BinOp) (x y : Bool) : Option Value :=
  match op with
  | .eql => some (.bool (x == y))
  | .neq => some (.bool (!(x == y)))
  | _ => none
def binV (kd : Kd) (op : BinOp) : Value → Value → Option Value
  | .int k x, .int k' y => if k = k' then intBin op k x y else none
  | .string x, .string y => strBin op x y
  | .bool x, .bool y => match kd with | .bool => boolBin op x y | _ => none
  | _, _ => none
def unV (op : UnOp) : Value → Option Value
  | .int k x => match op with | .neg => some (.int k (k.wrap (0 - x))) | _ => none
  | .bool b => match op with | .not => some (.bool !b) | _ => none
  | _ => none
def U.mk (l : Bool) (v : Value) : U := match l with | true => .lit v | false => .sym v
def U.val : U → Option (Bool × Value)
  | .lit v => some (true, v)
  | .sym v => some (false, v)
  | _ => none
def U.len : U → Option U
  | .lit (.slice _ n _) => some (.lit (.int .i64 n))
  | .sym (.slice _ n _) => some (.sym (.int .i64 n))
  | .nat n _ => some (.sym (.int .i64 ((limB B64 n).length : Nat)))
  | .rn n => some (.sym (.int .i64 ((limB B32 n).length : Nat)))
  | .sl _ n _ => some (.lit (.int .i64 (n : Nat)))
  | .pts l _ => some (.sym (.int .i64 (l.length : Nat)))
  | _ => none
def constOk : Value → Bool
  | .agg _ | .tuple _ => false
  | _ => true
def St.opd (st : St) : Operand → Option T
  | .tmp t => (nth st.slots t).getD none
  | .const v => bif constOk v then some (.one [.lit v]) else none
  | .func f => some (.one [.lit (.func (.func f) #[] #[])])
  | .global _ => none
def ones : List (Option T) → Option (List V)
  | [] => some []
  | some (.one v) :: r => (ones r).map (v :: ·)
  | _ :: _ => none
/-- Parts put into a zero value's cells. -/
def fillV (place : Nat → Option (Nat × Nat)) (c : V) : List (Nat × Option T) → Option V
  | [] => some c
  | (i, some (.one x)) :: r => match place i with
    | some (o, n) => bif V.size x == n && V.fine x then (match V.put c o n x with | some c' => fillV place c' r | none => none) else none
    | none => none
  | _ :: _ => none
def zipN : List Nat → List Nat → Nat → Option (Nat × Nat)
  | o :: _, n :: _, 0 => some (o, n)
  | _ :: os, _ :: ns, i + 1 => zipN os ns i
  | _, _, _ => none
def Kd.place : Kd → Nat → Option (Nat × Nat)
  | .str offs szs, i => zipN offs szs i
  | .arr _ sz, i => some (i * sz, sz)
  | _, _ => none
def anys : Nat → V
  | 0 => []
  | n + 1 => .any :: anys n
/-- Cells that are known as they are. -/
def exacts : V → Option (List Value)
  | [] => some []
  | .lit v :: r | .sym v :: r => (exacts r).map (v :: ·)
  | .raw a b c _ _ :: r => (exacts r).map fun l => a :: b :: c :: l
  | _ :: _ => none
/-- Points, each of two fractions. -/
def ptsOf : V → Option (List (Rat × Rat) × Nat)
  | [] => some ([], 0)
  | .rat q i :: .rat r j :: l => (ptsOf l).map fun p => ((q, r) :: p.1, (i.max j).max p.2)
  | .rd q i :: .rd r j :: l => (ptsOf l).map fun p => ((q, r) :: p.1, (i.max j).max p.2)
  | _ => none
def litIx : U → Option Nat
  | .lit (.int _ (.ofNat n)) => some n
  | _ => none
def opEval (E : Env) (st : St) (op : Op) : Option Eff :=
  match op with
  | .move x | .assign x => (st.opd x).map fun t => .val t
  | .pick c a b => match st.opd c with
    | some (.one [.lit (.bool true)]) => (st.opd a).map fun t => .val t
    | some (.one [.lit (.bool false)]) => (st.opd b).map fun t => .val t
    | _ => none
  | .alloc t => (look E.ty t).map fun y => (.new ⟨t, y.zero⟩)
  | .box t x => match st.opd x, look E.ty t with
    | some (.one v), some y => bif V.size v == y.size && V.fine v then some (.new ⟨t, v⟩) else none
    | _, _ => none
  | .build t parts => match look E.ty t with
    | some y => bif y.kd.row then (fillV y.kd.place y.zero (parts.toList.map fun p => (p.1, st.opd p.2))).map fun v => (.val (.one v)) else none
    | none => none
  | .buildSlice t n parts => match look E.ty t with
    | some y => match y.kd with
      | .slc sz => bif (n * sz).ble 16777216 then (match fillV (fun i => some (i * sz, sz)) (anys (n * sz)) (parts.toList.map fun p => (p.1, st.opd p.2)) with
        | some c => match exacts c with
          | some l => bif l.length == n * sz then some (.val (.one [.sl l n sz])) else none
          | none => none
        | none => none) else none
      | _ => none
    | none => none
  | .load t x => match st.opd x, look E.ty t with
    | some (.one [.ptr b o]), some y => match look st.boxes b with
      | some B => (V.grab B.us o y.size).map fun v => (.val (.one v))
      | none => none
    | _, _ => none
  | .store t x y => match st.opd x, st.opd y, look E.ty t with
    | some (.one [.ptr b o]), some (.one v), some z => bif V.size v == z.size && V.fine v then (match look st.boxes b with
      | some B => (V.put B.us o z.size v).map fun c => (.put b o z.size v c)
      | none => none) else none
    | _, _, _ => none
  | .binOp op t x y _ => match st.opd x, st.opd y, look E.ty t with
    | some (.one [u]), some (.one [v]), some z => match u.val, v.val with
      | some (l, a), some (m, b) => (binV z.kd op a b).map fun r => (.val (.one [.mk (l && m) r]))
      | _, _ => none
    | _, _, _ => none
  | .unOp op _ x => match st.opd x with
    | some (.one [u]) => match u.val with
      | some (l, a) => (unV op a).map fun r => (.val (.one [.mk l r]))
      | none => none
    | _ => none
  | .convert s d x => match st.opd x, look E.ty s, look E.ty d with
    | some (.one [u]), some _, some z => match u.val, z.kd with
      | some (l, .int _ n), .int k => some (.val (.one [.mk l (.int k (k.wrap n))]))
      | _, _ => none
    | _, _, _ => none
  | .fieldAddr t x f => match st.opd x, look E.ty t with
    | some (.one [.ptr b o]), some y => match y.kd with
      | .str offs szs => (zipN offs szs f).map fun p => (.val (.one [.ptr b (o + p.1)]))
      | _ => none
    | _, _ => none
  | .field t x f => match st.opd x, look E.ty t with
    | some (.one v), some y => match y.kd with
      | .str offs szs => match zipN offs szs f with
        | some (o, n) => bif V.size v == y.size then (V.grab v o n).map fun r => (.val (.one r)) else none
        | none => none
      | _ => none
    | _, _ => none
  | .indexAddr t x i => match st.opd x, st.opd i, look E.ty t with
    | some (.one [.ptr b o]), some (.one [u]), some y => match y.kd, litIx u with
      | .arr n sz, some k => bif k.blt n then some (.val (.one [.ptr b (o + k * sz)])) else none
      | _, _ => none
    | _, _, _ => none
  | .index t x i => match st.opd x, st.opd i, look E.ty t with
    | some (.one v), some (.one [u]), some y => match y.kd, litIx u with
      | .arr n sz, some k => bif k.blt n && (V.size v == y.size) then (V.grab v (k * sz) sz).map fun r => (.val (.one r)) else none
      | _, _ => none
    | _, _, _ => none
  | .extract x i => match st.opd x with
    | some (.tup l) => (nth l i).map fun v => (.val (.one v))
    | _ => none
  | .call c => match c.callee with
    | .value f => match st.opd f, ones (c.args.toList.map st.opd) with
      | some (.one [.lit (.func (.func g) first caps)]), some vs => bif first.isEmpty && caps.isEmpty then some (.call g vs) else none
      | _, _ => none
    | .builtin .len => match c.args.toList.map st.opd, c.argTypes.toList with
      | [some (.one [u])], [t] => match look E.ty t with
        | some y => match y.kd with
          | .slc _ => u.len.map fun r => (.val (.one [r]))
          | _ => none
        | none => none
      | _, _ => none
    | _ => none
  | _ => none
end Go.Proofs.YtafmfnpjhhaikaaGreatDoor
