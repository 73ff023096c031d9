/-
  From the walks to the rows: a law that returns true and leaves what was there as it was meets its specification; how points and fractions that came in are read.
-/
import Derived.Test.YtafmfnpjhhaikaaGreatDoorZav
import Derived.Test.YtafmfnpjhhaikaaGreatDoorCards
import Derived.Test.YtafmfnpjhhaikaaGreatDoorTie
import Derived.ProofKit
import Derived.LaidMore
import Derived.OpenShut
import Derived.Stop.Joined
import Derived.LaidSub
import Derived.SevenTiedAt
import Derived.Lib.LaidTab
import Derived.Deep.Slices
import Derived.Deep.Strs
import Derived.Lay
namespace Go.Proofs.YtafmfnpjhhaikaaGreatDoor
open Go.ChangeShapes Go.WideShapes Go.ChangeAt Go.WideMaps Go.WideElems Go.RowKit Go.Deep

theorem trodAll_below {H : Type} {enc : TypeId × Value → H} {P : Program} (hl : laidOutB P = true) {W W' : World} (hb : Below W.heap.size W W') :
    ∀ (ts : List TypeId) (vs : List Value) (ds : List (DataW H)) (ps : List MemPlace), (∀ t ∈ ts, P.readableRec t = true ∧ t < P.types.size) → DataW.TrodAll enc P W 0 (fun _ => true) true ts vs ds ps → (∀ x ∈ ps, x.block < W.heap.size) →
      DataW.TrodAll enc P W' 0 (fun b => decide (b < W.heap.size)) true ts vs ds ps
  | [], [], [], ps, _, h, _ => h
  | t :: ts, v :: vs, d :: ds, ps, hr, h, hlt => by
    obtain ⟨p, q, h1, h2, rfl⟩ := h
    exact ⟨p, q, Below.trod hl (hr t (by simp)).1 (hr t (by simp)).2 h1 hb (fun x hx => hlt x (List.mem_append.2 (.inl hx))), trodAll_below hl hb ts vs ds q (fun t ht => hr t (by simp [ht])) h2 (fun x hx => hlt x (List.mem_append.2 (.inr hx))), rfl⟩
theorem law_post {H : Type} {enc : TypeId × Value → H} {P : Program} {f : Func} {s : ChangeSpec} {W W' : World} {args : Array Value} {ds : List (DataW H)} {before : List MemPlace} (hl : laidOutB P = true) (hv : s.vars = [])
    (hW : DataW.Whole enc P f.params.toList s.vars false W args.toList ds [] before) (hr : ∀ t ∈ f.params.toList, P.readableRec t = true ∧ t < P.types.size) (hres : f.resultTypes = #[4]) (h4 : P.underlying 4 = some .bool)
    (hs : (s.fn H (ds ++ [])) = { results := [.lit (.bool true)], args := ds }) (hb : Below W.heap.size W W') : s.post enc P f false true false false W args (.bool true) W' := by
  have hW' := hW
  obtain ⟨p, q, hA, hV, rfl, hfz, hnd⟩ := hW'
  rw [hv] at hV
  obtain ⟨_, rfl⟩ := trodVars_none hV
  refine ⟨ds, [], _, [], p, [], hW, ?_, ?_, ?_, hb.frame _, fun h => by cases h⟩
  · rw [hs, hres]
    exact trodAll_mk1 (shut_bool h4 _)
  · rw [hs]
    exact trodAll_below hl hb _ _ _ _ hr hA (fun x hx => by have := hW.lt x (by simpa using hx); exact this)
  · rw [hs, hv]
    rfl
theorem own : ownKnob Tryz.prog.godebug = none := by kernel_rfl
theorem laidOut : laidOutB Tryz.prog = true := by kernel_rfl
def lay : List (String × DataW Unit) := [("unicode/utf8.acceptRanges", Rows.laid_unicode_utf8_acceptRanges), ("unicode/utf8.first", Rows.laid_unicode_utf8_first)]
theorem cellsU64 : Tryz.prog.cellsOf 105 = 1 := by kernel_rfl
theorem cellsBool : Tryz.prog.cellsOf 4 = 1 := by kernel_rfl
theorem cellsLimbs : Tryz.prog.cellsOf 22 = 1 := by kernel_rfl
theorem cellsInt2 : Tryz.prog.cellsOf 24 = 2 := by kernel_rfl
theorem cellsRat : Tryz.prog.cellsOf 26 = 3 := by kernel_rfl
theorem cellsPt : Tryz.prog.cellsOf 28 = 6 := by kernel_rfl
theorem u64_of {H : Type} {enc : TypeId × Value → H} {W : World} {b : Nat} {sp : Nat → Bool} {held : Bool} {n : Nat} {v : Value} {y : DataW H × List MemPlace} (h : DataW.trod enc Tryz.prog W b sp held n 105 [v] = some y) : ∃ x : Nat, v = .int .u64 (x : Int) ∧ x < B64 := by
  obtain ⟨z, hz, _, hw⟩ := DataW.trod_int Tryz.underlying105 h
  have := bounds_u64 hw
  simp only [List.cons.injEq, and_true] at hz
  exact ⟨z.toNat, by rw [hz]; congr 1; omega, by unfold B64; omega⟩
theorem list_any {α : Type} {p : Nat → α → Prop} : ∀ n, (∀ i, i < n → ∃ s, p i s) → ∃ l : List α, l.length = n ∧ ∀ (i : Nat) s, l[i]? = some s → p i s
  | 0, _ => ⟨[], rfl, by simp⟩
  | n + 1, h => by
    obtain ⟨l, hl, hp⟩ := list_any n (fun i hi => h i (by omega))
    obtain ⟨s, hs⟩ := h n (by omega)
    refine ⟨l ++ [s], by simp [hl], fun i t ht => ?_⟩
    by_cases hi : i < n
    · rw [List.getElem?_append_left (by omega)] at ht
      exact hp i t ht
    · have hin : i = n := by
        have := (List.getElem?_eq_some_iff.1 ht).1
        simp at this
        omega
      subst hin
      rw [List.getElem?_append_right (by omega), hl] at ht
      simp at ht
      subst ht
      exact hs
theorem addr_plain {W : World} {a : Addr} {v : Value} (h : W.cell? (a.add 0) = some v) : ∃ b o, a = ⟨b, o, none⟩ := by
  obtain ⟨b, o, sp⟩ := a
  cases sp with
  | none => exact ⟨b, o, rfl⟩
  | some z =>
    exfalso
    unfold World.cell? Addr.add at h
    (repeat' split at h) <;> simp_all
set_option maxRecDepth 100000 in
/-- A row of limbs that came in. -/
theorem opened_limbs {H : Type} {enc : TypeId × Value → H} {W : World} {n : Nat} {c : Value} {y : DataW H × List MemPlace} (h : DataW.trod enc Tryz.prog W 0 (fun _ => true) true n 22 [c] = some y) :
    ∃ (p : Option Addr) (k cp : Nat) (l : List Nat), c = .slice p k cp ∧ l.length = k ∧ R64 W (.slice p k cp) l := by
  rcases open_slice Tryz.underlying22 h with ⟨hcs, _⟩ | ⟨a, len, cap, m, k, D, Pl, hcs, _, hl, hm, hmm, _, hall⟩
  · simp only [List.cons.injEq, and_true] at hcs
    subst hcs
    exact ⟨none, 0, 0, [], rfl, rfl, LRow.nil _ _ _⟩
  · simp only [List.cons.injEq, and_true] at hcs
    subst hcs
    simp only [if_true] at hmm
    have hgo : ∀ i, i < len → ∃ x : Nat, W.cell? (a.add i) = some (.int .u64 (x : Int)) ∧ x < B64 := fun i hi => by
      obtain ⟨cs, h1, h2⟩ := hall i (by omega)
      rw [cellsU64, Nat.mul_one] at h1
      obtain ⟨_, hlen, _⟩ := World.cells?_some h1
      match cs, hlen with
      | [v], _ =>
        obtain ⟨x, rfl, hx⟩ := u64_of h2
        exact ⟨x, cell_of_cells?_one h1, hx⟩
    obtain ⟨l, hll, hp⟩ := list_any len hgo
    refine ⟨some a, len, cap, l, rfl, hll, some a, cap, by rw [hll], by omega, fun x hx => ?_, fun hne => ?_⟩
    · obtain ⟨i, hi⟩ := List.getElem?_of_mem hx
      exact (hp i x hi).2
    · have hpos : 0 < l.length := List.length_pos_iff.2 hne
      obtain ⟨b, o, rfl⟩ := addr_plain (hp 0 _ (List.getElem?_eq_getElem hpos)).1
      refine ⟨b, o, rfl, fun j x hj => ?_⟩
      have := (hp j x hj).1
      rwa [Addr.add_lit] at this
set_option maxRecDepth 100000 in
theorem plain_cell {W : World} {r : Reach} {base : Nat} {p : Option Addr} {k c : Nat} (h : Cell.okWide Tryz.prog W r base 22 (.slice p k c)) : PlainP p := by
  cases p with
  | none => exact .inl rfl
  | some a =>
    right
    simp only [Cell.okWide, Tryz.underlying22, Cell.ok, World.has] at h
    obtain ⟨b, o, sp⟩ := a
    obtain ⟨-, -, -, hs, -⟩ := h
    simp only at hs
    exact ⟨b, o, by rw [hs]⟩
/-- A slice of limbs that came in. -/
def Limbs (W : World) (p : Option Addr) (k c : Nat) : Prop := PlainP p ∧ ∃ l : List Nat, l.length = k ∧ R64 W (.slice p k c) l
theorem Limbs.ni {W : World} {p : Option Addr} {k c : Nat} (h : Limbs W p k c) (hk : k < 400000000) : ∃ n, NI W (.slice p k c) n ∧ n < B64 ^ k := by
  obtain ⟨hp, l, rfl, hr⟩ := h
  exact ⟨valB B64 l, ⟨p, c, l, rfl, hr, hp, rfl, hk⟩, val_lt hr.all⟩
/-- The slices of a point. -/
def PtIn (W : World) (x : Rp) : Prop := (Limbs W x.p1 x.k1 x.c1 ∧ Limbs W x.q1 x.j1 x.d1) ∧ Limbs W x.p2 x.k2 x.c2 ∧ Limbs W x.q2 x.j2 x.d2
theorem rs_of {W : World} {s : Bool} {p q : Option Addr} {k c j d m : Nat} (h1 : Limbs W p k c) (h2 : Limbs W q j d) (hk : k ≤ m) (hj : j ≤ m) (hm : m ≤ LimK) (h0 : 0 < m) : ∃ x, RS m W (.agg #[.bool s, .slice p k c, .slice q j d]) x := by
  unfold LimK at hm
  obtain ⟨a, ha, hal⟩ := h1.ni (by omega)
  obtain ⟨b, hb, hbl⟩ := h2.ni (by omega)
  exact ⟨ratOf s a b, ⟨s, _, _, a, b, rfl, ha, hb, rfl⟩, sz_of (Nat.lt_of_lt_of_le hal (Nat.pow_le_pow_right b64_pos hk)) (Nat.lt_of_lt_of_le hbl (Nat.pow_le_pow_right b64_pos hj)) h0⟩
theorem PtIn.ps {W : World} {x : Rp} (h : PtIn W x) (hk : x.ok 6 = true) : ∃ X Y, PS 6 W (.agg x.row.toArray) X Y := by
  unfold Rp.ok at hk
  have hk := of_decide_eq_true hk
  obtain ⟨X, hX⟩ := rs_of (s := x.s1) h.1.1 h.1.2 hk.1.1 hk.1.2 (by decide) (by decide)
  obtain ⟨Y, hY⟩ := rs_of (s := x.s2) h.2.1 h.2.2 hk.2.1 hk.2.2 (by decide) (by decide)
  exact ⟨X, Y, _, _, _, _, _, _, rfl, hX, hY⟩
set_option maxRecDepth 100000 in
theorem int_open {H : Type} {enc : TypeId × Value → H} {W : World} {n : Nat} {cs : List Value} {x : DataW H × List MemPlace} (h : DataW.trod enc Tryz.prog W 0 (fun _ => true) true n 24 cs = some x) :
    ∃ (s : Bool) (p : Option Addr) (k c : Nat) (l : List Nat), cs = [.bool s, .slice p k c] ∧ l.length = k ∧ R64 W (.slice p k c) l := by
  obtain ⟨y0, y1, m, _, hl, h0, h1⟩ := trod_struct2 Tryz.underlying24 h
  rw [cellsInt2] at hl
  match cs, hl with
  | [c0, c1], _ =>
    dsimp only at h0 h1
    rw [cellsBool] at h0
    rw [cellsLimbs] at h1
    simp only [List.drop_zero, List.drop_succ_cons, List.take_succ_cons, List.take_zero] at h0 h1
    obtain ⟨s, hs, _⟩ := DataW.trod_bool Tryz.underlying4 h0
    simp only [List.cons.injEq, and_true] at hs
    subst hs
    obtain ⟨p, k, c, l, rfl, h2, h3⟩ := opened_limbs h1
    exact ⟨s, p, k, c, l, rfl, h2, h3⟩
set_option maxRecDepth 100000 in
theorem rat_open {H : Type} {enc : TypeId × Value → H} {W : World} {n : Nat} {cs : List Value} {x : DataW H × List MemPlace} (h : DataW.trod enc Tryz.prog W 0 (fun _ => true) true n 26 cs = some x) :
    ∃ (s : Bool) (p : Option Addr) (k c : Nat) (q : Option Addr) (j d : Nat), cs = [.bool s, .slice p k c, .slice q j d] ∧ (∃ l : List Nat, l.length = k ∧ R64 W (.slice p k c) l) ∧ ∃ l : List Nat, l.length = j ∧ R64 W (.slice q j d) l := by
  obtain ⟨y0, y1, m, _, hl, h0, h1⟩ := trod_struct2 Tryz.underlying26 h
  rw [cellsRat] at hl
  match cs, hl with
  | [c0, c1, c2], _ =>
    dsimp only at h0 h1
    rw [cellsInt2] at h0
    rw [cellsLimbs] at h1
    simp only [List.drop_zero, List.drop_succ_cons, List.take_succ_cons, List.take_zero] at h0 h1
    obtain ⟨s, p, k, c, l, hs, h2, h3⟩ := int_open h0
    simp only [List.cons.injEq, and_true] at hs
    obtain ⟨rfl, rfl⟩ := hs
    obtain ⟨q, j, d, l', rfl, h4, h5⟩ := opened_limbs h1
    exact ⟨s, p, k, c, q, j, d, rfl, ⟨l, h2, h3⟩, l', h4, h5⟩
set_option maxRecDepth 100000 in
theorem pt_open {H : Type} {enc : TypeId × Value → H} {W : World} {n : Nat} {cs : List Value} {x : DataW H × List MemPlace} (h : DataW.trod enc Tryz.prog W 0 (fun _ => true) true n 28 cs = some x) :
    ∃ x : Rp, cs = x.row ∧ ((∃ l : List Nat, l.length = x.k1 ∧ R64 W (.slice x.p1 x.k1 x.c1) l) ∧ ∃ l : List Nat, l.length = x.j1 ∧ R64 W (.slice x.q1 x.j1 x.d1) l) ∧ (∃ l : List Nat, l.length = x.k2 ∧ R64 W (.slice x.p2 x.k2 x.c2) l) ∧ ∃ l : List Nat, l.length = x.j2 ∧ R64 W (.slice x.q2 x.j2 x.d2) l := by
  obtain ⟨y0, y1, m, _, hl, h0, h1⟩ := trod_struct2 Tryz.underlying28 h
  rw [cellsPt] at hl
  match cs, hl with
  | [c0, c1, c2, c3, c4, c5], _ =>
    dsimp only at h0 h1
    rw [cellsRat] at h0 h1
    simp only [List.drop_zero, List.drop_succ_cons, List.take_succ_cons, List.take_zero] at h0 h1
    obtain ⟨s1, p1, k1, e1, q1, j1, d1, hs, h2, h3⟩ := rat_open h0
    obtain ⟨s2, p2, k2, e2, q2, j2, d2, ht, h4, h5⟩ := rat_open h1
    simp only [List.cons.injEq, and_true] at hs ht
    obtain ⟨rfl, rfl, rfl⟩ := hs
    obtain ⟨rfl, rfl, rfl⟩ := ht
    exact ⟨⟨s1, p1, k1, e1, q1, j1, d1, s2, p2, k2, e2, q2, j2, d2⟩, rfl, ⟨h2, h3⟩, h4, h5⟩
theorem ptTypes : Tryz.prog.cellTypes Tryz.prog.depth 28 = some [4, 22, 22, 4, 22, 22] := by kernel_rfl
set_option maxRecDepth 100000 in
/-- A point that came in. -/
theorem opened_pt {H : Type} {enc : TypeId × Value → H} {W : World} {r : Reach} {base : Nat} {v : Value} {d : DataW H} {p : List MemPlace} (h : DataW.Trod enc Tryz.prog W 0 (fun _ => true) true 28 v d p) (hv : Value.okWide Tryz.prog W r base 28 v) :
    ∃ x : Rp, v = .agg x.row.toArray ∧ PtIn W x := by
  simp only [Value.okWide, Tryz.underlying28] at hv
  obtain ⟨cs, rfl, -, ts, hts, -, hall⟩ := hv
  rw [ptTypes] at hts
  simp only [Option.some.injEq] at hts
  subst hts
  obtain ⟨n, hn⟩ := h
  obtain ⟨x, hx, ⟨h1, h2⟩, h3, h4⟩ := pt_open hn
  have hx' : cs = x.row.toArray := by
    have : cs.toList = x.row := hx
    rw [← this]
  subst hx'
  have hc : ∀ (i : Nat) (p : Option Addr) (k c : Nat) (u : TypeId), x.row[i]? = some (.slice p k c) → ([4, 22, 22, 4, 22, 22] : List TypeId)[i % 6]? = some 22 → PlainP p := fun i p k c u hi ht => by
    obtain ⟨u', hu, hok⟩ := hall i _ (by rw [List.getElem?_toArray]; exact hi)
    simp only [List.length_cons, List.length_nil, Nat.zero_add, Nat.reduceAdd] at hu
    rw [ht] at hu
    cases hu
    exact plain_cell hok
  exact ⟨x, rfl, ⟨⟨hc 1 _ _ _ 0 rfl rfl, h1⟩, hc 2 _ _ _ 0 rfl rfl, h2⟩, ⟨hc 4 _ _ _ 0 rfl rfl, h3⟩, hc 5 _ _ _ 0 rfl rfl, h4⟩
end Go.Proofs.YtafmfnpjhhaikaaGreatDoor

/-
  Maps: six fractions (printed by gen_maa.py).
-/
namespace Go.Proofs.YtafmfnpjhhaikaaGreatDoor
open Go.RowKit Go.Shelf

def MS (k : Nat) (w : World) (v : Value) (a b c d e f : Rat) : Prop := ∃ s1 u1 d1 s2 u2 d2 s3 u3 d3 s4 u4 d4 s5 u5 d5 s6 u6 d6, v = .agg #[s1, u1, d1, s2, u2, d2, s3, u3, d3, s4, u4, d4, s5, u5, d5, s6, u6, d6] ∧ RS k w (.agg #[s1, u1, d1]) a ∧ RS k w (.agg #[s2, u2, d2]) b ∧ RS k w (.agg #[s3, u3, d3]) c ∧ RS k w (.agg #[s4, u4, d4]) d ∧ RS k w (.agg #[s5, u5, d5]) e ∧ RS k w (.agg #[s6, u6, d6]) f
def MN (k : Nat) (w : World) (v : Value) (a b c d e f : Rat) : Prop := ∃ s1 u1 d1 s2 u2 d2 s3 u3 d3 s4 u4 d4 s5 u5 d5 s6 u6 d6, v = .agg #[s1, u1, d1, s2, u2, d2, s3, u3, d3, s4, u4, d4, s5, u5, d5, s6, u6, d6] ∧ RN k w (.agg #[s1, u1, d1]) a ∧ RN k w (.agg #[s2, u2, d2]) b ∧ RN k w (.agg #[s3, u3, d3]) c ∧ RN k w (.agg #[s4, u4, d4]) d ∧ RN k w (.agg #[s5, u5, d5]) e ∧ RN k w (.agg #[s6, u6, d6]) f
section
variable {w w' : World} {v : Value} {k : Nat} {a b c d e f : Rat}
theorem MS.bel (h : MS k w v a b c d e f) (hb : Bel w w') : MS k w' v a b c d e f := by
  obtain ⟨s1, u1, d1, s2, u2, d2, s3, u3, d3, s4, u4, d4, s5, u5, d5, s6, u6, d6, h0, h1, h2, h3, h4, h5, h6⟩ := h
  exact ⟨s1, u1, d1, s2, u2, d2, s3, u3, d3, s4, u4, d4, s5, u5, d5, s6, u6, d6, h0, h1.bel hb, h2.bel hb, h3.bel hb, h4.bel hb, h5.bel hb, h6.bel hb⟩
theorem MS.lim (h : MS k w v a b c d e f) (hl : Lim w w') : MS k w' v a b c d e f := by
  obtain ⟨s1, u1, d1, s2, u2, d2, s3, u3, d3, s4, u4, d4, s5, u5, d5, s6, u6, d6, h0, h1, h2, h3, h4, h5, h6⟩ := h
  exact ⟨s1, u1, d1, s2, u2, d2, s3, u3, d3, s4, u4, d4, s5, u5, d5, s6, u6, d6, h0, h1.lim hl, h2.lim hl, h3.lim hl, h4.lim hl, h5.lim hl, h6.lim hl⟩
theorem MS.mono (h : MS k w v a b c d e f) {m : Nat} (hm : k ≤ m) : MS m w v a b c d e f := by
  obtain ⟨s1, u1, d1, s2, u2, d2, s3, u3, d3, s4, u4, d4, s5, u5, d5, s6, u6, d6, h0, h1, h2, h3, h4, h5, h6⟩ := h
  exact ⟨s1, u1, d1, s2, u2, d2, s3, u3, d3, s4, u4, d4, s5, u5, d5, s6, u6, d6, h0, h1.mono hm, h2.mono hm, h3.mono hm, h4.mono hm, h5.mono hm, h6.mono hm⟩
theorem MN.bel (h : MN k w v a b c d e f) (hb : Bel w w') : MN k w' v a b c d e f := by
  obtain ⟨s1, u1, d1, s2, u2, d2, s3, u3, d3, s4, u4, d4, s5, u5, d5, s6, u6, d6, h0, h1, h2, h3, h4, h5, h6⟩ := h
  exact ⟨s1, u1, d1, s2, u2, d2, s3, u3, d3, s4, u4, d4, s5, u5, d5, s6, u6, d6, h0, h1.bel hb, h2.bel hb, h3.bel hb, h4.bel hb, h5.bel hb, h6.bel hb⟩
theorem MN.lim (h : MN k w v a b c d e f) (hl : Lim w w') : MN k w' v a b c d e f := by
  obtain ⟨s1, u1, d1, s2, u2, d2, s3, u3, d3, s4, u4, d4, s5, u5, d5, s6, u6, d6, h0, h1, h2, h3, h4, h5, h6⟩ := h
  exact ⟨s1, u1, d1, s2, u2, d2, s3, u3, d3, s4, u4, d4, s5, u5, d5, s6, u6, d6, h0, h1.lim hl, h2.lim hl, h3.lim hl, h4.lim hl, h5.lim hl, h6.lim hl⟩
theorem MN.mono (h : MN k w v a b c d e f) {m : Nat} (hm : k ≤ m) : MN m w v a b c d e f := by
  obtain ⟨s1, u1, d1, s2, u2, d2, s3, u3, d3, s4, u4, d4, s5, u5, d5, s6, u6, d6, h0, h1, h2, h3, h4, h5, h6⟩ := h
  exact ⟨s1, u1, d1, s2, u2, d2, s3, u3, d3, s4, u4, d4, s5, u5, d5, s6, u6, d6, h0, h1.mono hm, h2.mono hm, h3.mono hm, h4.mono hm, h5.mono hm, h6.mono hm⟩
theorem MN.ms (h : MN k w v a b c d e f) (hk : k ≤ LimK) : MS k w v a b c d e f := by
  obtain ⟨s1, u1, d1, s2, u2, d2, s3, u3, d3, s4, u4, d4, s5, u5, d5, s6, u6, d6, h0, h1, h2, h3, h4, h5, h6⟩ := h
  exact ⟨s1, u1, d1, s2, u2, d2, s3, u3, d3, s4, u4, d4, s5, u5, d5, s6, u6, d6, h0, h1.rs hk, h2.rs hk, h3.rs hk, h4.rs hk, h5.rs hk, h6.rs hk⟩
theorem MS.parts (h : MS k w v a b c d e f) : ∃ s1 p1 k1 c1 q1 j1 d1 s2 p2 k2 c2 q2 j2 d2 s3 p3 k3 c3 q3 j3 d3 s4 p4 k4 c4 q4 j4 d4 s5 p5 k5 c5 q5 j5 d5 s6 p6 k6 c6 q6 j6 d6, v = .agg #[.bool s1, .slice p1 k1 c1, .slice q1 j1 d1, .bool s2, .slice p2 k2 c2, .slice q2 j2 d2, .bool s3, .slice p3 k3 c3, .slice q3 j3 d3, .bool s4, .slice p4 k4 c4, .slice q4 j4 d4, .bool s5, .slice p5 k5 c5, .slice q5 j5 d5, .bool s6, .slice p6 k6 c6, .slice q6 j6 d6] ∧ RS k w (.agg #[.bool s1, .slice p1 k1 c1, .slice q1 j1 d1]) a ∧ RS k w (.agg #[.bool s2, .slice p2 k2 c2, .slice q2 j2 d2]) b ∧ RS k w (.agg #[.bool s3, .slice p3 k3 c3, .slice q3 j3 d3]) c ∧ RS k w (.agg #[.bool s4, .slice p4 k4 c4, .slice q4 j4 d4]) d ∧ RS k w (.agg #[.bool s5, .slice p5 k5 c5, .slice q5 j5 d5]) e ∧ RS k w (.agg #[.bool s6, .slice p6 k6 c6, .slice q6 j6 d6]) f := by
  obtain ⟨s1, u1, d1, s2, u2, d2, s3, u3, d3, s4, u4, d4, s5, u5, d5, s6, u6, d6, rfl, h1, h2, h3, h4, h5, h6⟩ := h
  obtain ⟨s1, p1, k1, c1, q1, j1, d1, e1⟩ := h1.parts
  simp only [Value.agg.injEq, Array.mk.injEq, List.cons.injEq, and_true] at e1
  obtain ⟨rfl, rfl, rfl⟩ := e1
  obtain ⟨s2, p2, k2, c2, q2, j2, d2, e2⟩ := h2.parts
  simp only [Value.agg.injEq, Array.mk.injEq, List.cons.injEq, and_true] at e2
  obtain ⟨rfl, rfl, rfl⟩ := e2
  obtain ⟨s3, p3, k3, c3, q3, j3, d3, e3⟩ := h3.parts
  simp only [Value.agg.injEq, Array.mk.injEq, List.cons.injEq, and_true] at e3
  obtain ⟨rfl, rfl, rfl⟩ := e3
  obtain ⟨s4, p4, k4, c4, q4, j4, d4, e4⟩ := h4.parts
  simp only [Value.agg.injEq, Array.mk.injEq, List.cons.injEq, and_true] at e4
  obtain ⟨rfl, rfl, rfl⟩ := e4
  obtain ⟨s5, p5, k5, c5, q5, j5, d5, e5⟩ := h5.parts
  simp only [Value.agg.injEq, Array.mk.injEq, List.cons.injEq, and_true] at e5
  obtain ⟨rfl, rfl, rfl⟩ := e5
  obtain ⟨s6, p6, k6, c6, q6, j6, d6, e6⟩ := h6.parts
  simp only [Value.agg.injEq, Array.mk.injEq, List.cons.injEq, and_true] at e6
  obtain ⟨rfl, rfl, rfl⟩ := e6
  exact ⟨s1, p1, k1, c1, q1, j1, d1, s2, p2, k2, c2, q2, j2, d2, s3, p3, k3, c3, q3, j3, d3, s4, p4, k4, c4, q4, j4, d4, s5, p5, k5, c5, q5, j5, d5, s6, p6, k6, c6, q6, j6, d6, rfl, h1, h2, h3, h4, h5, h6⟩
theorem MS.split {z0 z1 z2 z3 z4 z5 z6 z7 z8 z9 z10 z11 z12 z13 z14 z15 z16 z17 : Value} (h : MS k w (.agg #[z0, z1, z2, z3, z4, z5, z6, z7, z8, z9, z10, z11, z12, z13, z14, z15, z16, z17]) a b c d e f) : RS k w (.agg #[z0, z1, z2]) a ∧ RS k w (.agg #[z3, z4, z5]) b ∧ RS k w (.agg #[z6, z7, z8]) c ∧ RS k w (.agg #[z9, z10, z11]) d ∧ RS k w (.agg #[z12, z13, z14]) e ∧ RS k w (.agg #[z15, z16, z17]) f := by
  obtain ⟨s1, u1, d1, s2, u2, d2, s3, u3, d3, s4, u4, d4, s5, u5, d5, s6, u6, d6, h0, h1, h2, h3, h4, h5, h6⟩ := h
  simp only [Value.agg.injEq, Array.mk.injEq, List.cons.injEq, and_true] at h0
  obtain ⟨rfl, rfl, rfl, rfl, rfl, rfl, rfl, rfl, rfl, rfl, rfl, rfl, rfl, rfl, rfl, rfl, rfl, rfl⟩ := h0
  exact ⟨h1, h2, h3, h4, h5, h6⟩
theorem MN.parts (h : MN k w v a b c d e f) : ∃ s1 p1 k1 c1 q1 j1 d1 s2 p2 k2 c2 q2 j2 d2 s3 p3 k3 c3 q3 j3 d3 s4 p4 k4 c4 q4 j4 d4 s5 p5 k5 c5 q5 j5 d5 s6 p6 k6 c6 q6 j6 d6, v = .agg #[.bool s1, .slice p1 k1 c1, .slice q1 j1 d1, .bool s2, .slice p2 k2 c2, .slice q2 j2 d2, .bool s3, .slice p3 k3 c3, .slice q3 j3 d3, .bool s4, .slice p4 k4 c4, .slice q4 j4 d4, .bool s5, .slice p5 k5 c5, .slice q5 j5 d5, .bool s6, .slice p6 k6 c6, .slice q6 j6 d6] ∧ RN k w (.agg #[.bool s1, .slice p1 k1 c1, .slice q1 j1 d1]) a ∧ RN k w (.agg #[.bool s2, .slice p2 k2 c2, .slice q2 j2 d2]) b ∧ RN k w (.agg #[.bool s3, .slice p3 k3 c3, .slice q3 j3 d3]) c ∧ RN k w (.agg #[.bool s4, .slice p4 k4 c4, .slice q4 j4 d4]) d ∧ RN k w (.agg #[.bool s5, .slice p5 k5 c5, .slice q5 j5 d5]) e ∧ RN k w (.agg #[.bool s6, .slice p6 k6 c6, .slice q6 j6 d6]) f := by
  obtain ⟨s1, u1, d1, s2, u2, d2, s3, u3, d3, s4, u4, d4, s5, u5, d5, s6, u6, d6, rfl, h1, h2, h3, h4, h5, h6⟩ := h
  obtain ⟨s1, p1, k1, c1, q1, j1, d1, e1⟩ := h1.parts
  simp only [Value.agg.injEq, Array.mk.injEq, List.cons.injEq, and_true] at e1
  obtain ⟨rfl, rfl, rfl⟩ := e1
  obtain ⟨s2, p2, k2, c2, q2, j2, d2, e2⟩ := h2.parts
  simp only [Value.agg.injEq, Array.mk.injEq, List.cons.injEq, and_true] at e2
  obtain ⟨rfl, rfl, rfl⟩ := e2
  obtain ⟨s3, p3, k3, c3, q3, j3, d3, e3⟩ := h3.parts
  simp only [Value.agg.injEq, Array.mk.injEq, List.cons.injEq, and_true] at e3
  obtain ⟨rfl, rfl, rfl⟩ := e3
  obtain ⟨s4, p4, k4, c4, q4, j4, d4, e4⟩ := h4.parts
  simp only [Value.agg.injEq, Array.mk.injEq, List.cons.injEq, and_true] at e4
  obtain ⟨rfl, rfl, rfl⟩ := e4
  obtain ⟨s5, p5, k5, c5, q5, j5, d5, e5⟩ := h5.parts
  simp only [Value.agg.injEq, Array.mk.injEq, List.cons.injEq, and_true] at e5
  obtain ⟨rfl, rfl, rfl⟩ := e5
  obtain ⟨s6, p6, k6, c6, q6, j6, d6, e6⟩ := h6.parts
  simp only [Value.agg.injEq, Array.mk.injEq, List.cons.injEq, and_true] at e6
  obtain ⟨rfl, rfl, rfl⟩ := e6
  exact ⟨s1, p1, k1, c1, q1, j1, d1, s2, p2, k2, c2, q2, j2, d2, s3, p3, k3, c3, q3, j3, d3, s4, p4, k4, c4, q4, j4, d4, s5, p5, k5, c5, q5, j5, d5, s6, p6, k6, c6, q6, j6, d6, rfl, h1, h2, h3, h4, h5, h6⟩
theorem MN.split {z0 z1 z2 z3 z4 z5 z6 z7 z8 z9 z10 z11 z12 z13 z14 z15 z16 z17 : Value} (h : MN k w (.agg #[z0, z1, z2, z3, z4, z5, z6, z7, z8, z9, z10, z11, z12, z13, z14, z15, z16, z17]) a b c d e f) : RN k w (.agg #[z0, z1, z2]) a ∧ RN k w (.agg #[z3, z4, z5]) b ∧ RN k w (.agg #[z6, z7, z8]) c ∧ RN k w (.agg #[z9, z10, z11]) d ∧ RN k w (.agg #[z12, z13, z14]) e ∧ RN k w (.agg #[z15, z16, z17]) f := by
  obtain ⟨s1, u1, d1, s2, u2, d2, s3, u3, d3, s4, u4, d4, s5, u5, d5, s6, u6, d6, h0, h1, h2, h3, h4, h5, h6⟩ := h
  simp only [Value.agg.injEq, Array.mk.injEq, List.cons.injEq, and_true] at h0
  obtain ⟨rfl, rfl, rfl, rfl, rfl, rfl, rfl, rfl, rfl, rfl, rfl, rfl, rfl, rfl, rfl, rfl, rfl, rfl⟩ := h0
  exact ⟨h1, h2, h3, h4, h5, h6⟩
end
theorem ps_mk {k : Nat} {w : World} {c1 c2 c3 c4 c5 c6 : Value} {x y : Rat} (h1 : RS k w (.agg #[c1, c2, c3]) x) (h2 : RS k w (.agg #[c4, c5, c6]) y) : PS k w (.agg #[c1, c2, c3, c4, c5, c6]) x y := ⟨_, _, _, _, _, _, rfl, h1, h2⟩
theorem ms_mk {k : Nat} {w : World} {z0 z1 z2 z3 z4 z5 z6 z7 z8 z9 z10 z11 z12 z13 z14 z15 z16 z17 : Value} {a b c d e f : Rat} (h1 : RS k w (.agg #[z0, z1, z2]) a) (h2 : RS k w (.agg #[z3, z4, z5]) b) (h3 : RS k w (.agg #[z6, z7, z8]) c) (h4 : RS k w (.agg #[z9, z10, z11]) d) (h5 : RS k w (.agg #[z12, z13, z14]) e) (h6 : RS k w (.agg #[z15, z16, z17]) f) : MS k w (.agg #[z0, z1, z2, z3, z4, z5, z6, z7, z8, z9, z10, z11, z12, z13, z14, z15, z16, z17]) a b c d e f := ⟨_, _, _, _, _, _, _, _, _, _, _, _, _, _, _, _, _, _, rfl, h1, h2, h3, h4, h5, h6⟩
theorem mn_mk {k : Nat} {w : World} {z0 z1 z2 z3 z4 z5 z6 z7 z8 z9 z10 z11 z12 z13 z14 z15 z16 z17 : Value} {a b c d e f : Rat} (h1 : RN k w (.agg #[z0, z1, z2]) a) (h2 : RN k w (.agg #[z3, z4, z5]) b) (h3 : RN k w (.agg #[z6, z7, z8]) c) (h4 : RN k w (.agg #[z9, z10, z11]) d) (h5 : RN k w (.agg #[z12, z13, z14]) e) (h6 : RN k w (.agg #[z15, z16, z17]) f) : MN k w (.agg #[z0, z1, z2, z3, z4, z5, z6, z7, z8, z9, z10, z11, z12, z13, z14, z15, z16, z17]) a b c d e f := ⟨_, _, _, _, _, _, _, _, _, _, _, _, _, _, _, _, _, _, rfl, h1, h2, h3, h4, h5, h6⟩
theorem rs_zero (w : World) : RS 1 w (.agg #[.bool false, .slice none 0 0, .slice none 0 0]) 0 := ⟨⟨false, _, _, 0, 0, rfl, ni_nil w, ni_nil w, by decide +kernel⟩, by decide, by decide⟩
theorem ps_zero (w : World) : PS 1 w (.agg #[.bool false, .slice none 0 0, .slice none 0 0, .bool false, .slice none 0 0, .slice none 0 0]) 0 0 := ps_mk (rs_zero w) (rs_zero w)
theorem PN.split {k : Nat} {w : World} {c1 c2 c3 c4 c5 c6 : Value} {x y : Rat} (h : PN k w (.agg #[c1, c2, c3, c4, c5, c6]) x y) : RN k w (.agg #[c1, c2, c3]) x ∧ RN k w (.agg #[c4, c5, c6]) y := by
  obtain ⟨⟨s1, u1, d1, s2, u2, d2, h0, h1, h2⟩, hx, hy⟩ := h
  simp only [Value.agg.injEq, Array.mk.injEq, List.cons.injEq, and_true] at h0
  obtain ⟨rfl, rfl, rfl, rfl, rfl, rfl⟩ := h0
  exact ⟨⟨h1, hx⟩, h2, hy⟩
/-- A value and what came of it. -/
def Tup (Φ : Value → World → Prop) (c : Value) (v : Value) (w : World) : Prop := ∃ u, v = .tuple #[u, c] ∧ Φ u w
theorem Tup.bel {Φ : Value → World → Prop} {c v : Value} {w w' : World} (h : Tup Φ c v w) (hs : ∀ v w w', Φ v w → Bel w w' → Φ v w') (hb : Bel w w') : Tup Φ c v w' := by
  obtain ⟨u, h1, h2⟩ := h
  exact ⟨u, h1, hs _ _ _ h2 hb⟩
theorem au_rdiv {w : World} {a b : Value} {x y : Rat} {i j : Nat} (ha : RS i w a x) (hb : RS j w b y) (hl : i + j < LimK) (h0 : y ≠ 0) : Calls Tryz.prog 87 #[a, b] w (Makes w (Tup (fun v w' => RN (i + j) w' v (x / y)) (.int .i64 0))) := by
  have hn : y.num ≠ 0 := fun h => h0 (Rat.num_eq_zero.1 h)
  refine (mk_rdiv ha hb hl h0).mono fun _ _ h => h.imp fun _ h => ?_
  obtain ⟨u, h1, h2⟩ := h
  exact ⟨u, h1, h2, ha.2.div hb.2 hn⟩
theorem au_rdiv0 {w : World} {a b : Value} {x y : Rat} {i j : Nat} (ha : RS i w a x) (hb : RS j w b y) (hl : i + j < LimK) (h0 : y = 0) : Calls Tryz.prog 87 #[a, b] w (Makes w fun v _ => v = .tuple #[.agg #[.bool false, .slice none 0 0, .slice none 0 0], .int .i64 12]) := mk_rdiv0 ha hb hl h0
end Go.Proofs.YtafmfnpjhhaikaaGreatDoor

/-
  How a map came in.
-/
namespace Go.Proofs.YtafmfnpjhhaikaaGreatDoor
open Go.ChangeShapes Go.WideShapes Go.ChangeAt Go.WideMaps Go.WideElems Go.RowKit Go.Deep

theorem cellsMat : Tryz.prog.cellsOf 72 = 18 := by kernel_rfl
theorem matTypes : Tryz.prog.cellTypes Tryz.prog.depth 72 = some [4, 22, 22, 4, 22, 22, 4, 22, 22, 4, 22, 22, 4, 22, 22, 4, 22, 22] := by kernel_rfl
set_option maxRecDepth 100000 in
theorem mat_open {H : Type} {enc : TypeId × Value → H} {W : World} {n : Nat} {cs : List Value} {x : DataW H × List MemPlace} (h : DataW.trod enc Tryz.prog W 0 (fun _ => true) true n 72 cs = some x) :
    cs.length = 18 ∧ ∀ i, i < 6 → ∃ y m, DataW.trod enc Tryz.prog W 0 (fun _ => true) true m 26 ((cs.drop (i * 3)).take 3) = some y := by
  obtain ⟨xs, m, _, -, hl, hlen, hf⟩ := DataW.trod_struct Tryz.underlying72 h
  rw [cellsMat] at hl
  refine ⟨hl, fun i hi => ?_⟩
  match xs, hlen, i, hi with
  | [y0, y1, y2, y3, y4, y5], _, 0, _ => have h : DataW.trod enc Tryz.prog W 0 (fun _ => true) true m 26 ((cs.drop (0 * Tryz.prog.cellsOf 26)).take (Tryz.prog.cellsOf 26)) = some y0 := hf 0 _ rfl; rw [cellsRat] at h; exact ⟨y0, m, h⟩
  | [y0, y1, y2, y3, y4, y5], _, 1, _ => have h : DataW.trod enc Tryz.prog W 0 (fun _ => true) true m 26 ((cs.drop (1 * Tryz.prog.cellsOf 26)).take (Tryz.prog.cellsOf 26)) = some y1 := hf 1 _ rfl; rw [cellsRat] at h; exact ⟨y1, m, h⟩
  | [y0, y1, y2, y3, y4, y5], _, 2, _ => have h : DataW.trod enc Tryz.prog W 0 (fun _ => true) true m 26 ((cs.drop (2 * Tryz.prog.cellsOf 26)).take (Tryz.prog.cellsOf 26)) = some y2 := hf 2 _ rfl; rw [cellsRat] at h; exact ⟨y2, m, h⟩
  | [y0, y1, y2, y3, y4, y5], _, 3, _ => have h : DataW.trod enc Tryz.prog W 0 (fun _ => true) true m 26 ((cs.drop (3 * Tryz.prog.cellsOf 26)).take (Tryz.prog.cellsOf 26)) = some y3 := hf 3 _ rfl; rw [cellsRat] at h; exact ⟨y3, m, h⟩
  | [y0, y1, y2, y3, y4, y5], _, 4, _ => have h : DataW.trod enc Tryz.prog W 0 (fun _ => true) true m 26 ((cs.drop (4 * Tryz.prog.cellsOf 26)).take (Tryz.prog.cellsOf 26)) = some y4 := hf 4 _ rfl; rw [cellsRat] at h; exact ⟨y4, m, h⟩
  | [y0, y1, y2, y3, y4, y5], _, 5, _ => have h : DataW.trod enc Tryz.prog W 0 (fun _ => true) true m 26 ((cs.drop (5 * Tryz.prog.cellsOf 26)).take (Tryz.prog.cellsOf 26)) = some y5 := hf 5 _ rfl; rw [cellsRat] at h; exact ⟨y5, m, h⟩
set_option maxRecDepth 100000 in
theorem opened_mat {H : Type} {enc : TypeId × Value → H} {W : World} {r : Reach} {base : Nat} {v : Value} {d : DataW H} {p : List MemPlace} (h : DataW.Trod enc Tryz.prog W 0 (fun _ => true) true 72 v d p) (hv : Value.okWide Tryz.prog W r base 72 v) :
    ∃ x y z : Rp, v = .agg (x.row ++ y.row ++ z.row).toArray ∧ PtIn W x ∧ PtIn W y ∧ PtIn W z := by
  simp only [Value.okWide, Tryz.underlying72] at hv
  obtain ⟨cs, rfl, -, ts, hts, -, hall⟩ := hv
  rw [matTypes] at hts
  simp only [Option.some.injEq] at hts
  subst hts
  obtain ⟨n, hn⟩ := h
  obtain ⟨hl, hx⟩ := mat_open hn
  change cs.toList.length = 18 at hl
  change ∀ i, i < 6 → ∃ y m, DataW.trod enc Tryz.prog W 0 (fun _ => true) true m 26 ((cs.toList.drop (i * 3)).take 3) = some y at hx
  have hg : ∀ i, i < 6 → ∃ (s : Bool) (p : Option Addr) (k c : Nat) (q : Option Addr) (j d : Nat), (cs.toList.drop (i * 3)).take 3 = [.bool s, .slice p k c, .slice q j d] ∧ (∃ l : List Nat, l.length = k ∧ R64 W (.slice p k c) l) ∧ ∃ l : List Nat, l.length = j ∧ R64 W (.slice q j d) l := fun i hi => by
    obtain ⟨y, m, h1⟩ := hx i hi
    exact rat_open h1
  obtain ⟨s0, p0, k0, c0, q0, j0, d0, a0, b0, e0⟩ := hg 0 (by omega)
  obtain ⟨s1, p1, k1, c1, q1, j1, d1, a1, b1, e1⟩ := hg 1 (by omega)
  obtain ⟨s2, p2, k2, c2, q2, j2, d2, a2, b2, e2⟩ := hg 2 (by omega)
  obtain ⟨s3, p3, k3, c3, q3, j3, d3, a3, b3, e3⟩ := hg 3 (by omega)
  obtain ⟨s4, p4, k4, c4, q4, j4, d4, a4, b4, e4⟩ := hg 4 (by omega)
  obtain ⟨s5, p5, k5, c5, q5, j5, d5, a5, b5, e5⟩ := hg 5 (by omega)
  have hcs : cs = (Rp.row ⟨s0, p0, k0, c0, q0, j0, d0, s1, p1, k1, c1, q1, j1, d1⟩ ++ Rp.row ⟨s2, p2, k2, c2, q2, j2, d2, s3, p3, k3, c3, q3, j3, d3⟩ ++ Rp.row ⟨s4, p4, k4, c4, q4, j4, d4, s5, p5, k5, c5, q5, j5, d5⟩).toArray := by
    have : cs.toList = Rp.row ⟨s0, p0, k0, c0, q0, j0, d0, s1, p1, k1, c1, q1, j1, d1⟩ ++ Rp.row ⟨s2, p2, k2, c2, q2, j2, d2, s3, p3, k3, c3, q3, j3, d3⟩ ++ Rp.row ⟨s4, p4, k4, c4, q4, j4, d4, s5, p5, k5, c5, q5, j5, d5⟩ := by
      generalize cs.toList = L at hl a0 a1 a2 a3 a4 a5 ⊢
      match L, hl with
      | [x0, x1, x2, x3, x4, x5, x6, x7, x8, x9, x10, x11, x12, x13, x14, x15, x16, x17], _ =>
        simp only [Nat.reduceMul, List.drop_zero, List.drop_succ_cons, List.take_succ_cons, List.take_zero, List.cons.injEq, and_true] at a0 a1 a2 a3 a4 a5
        obtain ⟨rfl, rfl, rfl⟩ := a0
        obtain ⟨rfl, rfl, rfl⟩ := a1
        obtain ⟨rfl, rfl, rfl⟩ := a2
        obtain ⟨rfl, rfl, rfl⟩ := a3
        obtain ⟨rfl, rfl, rfl⟩ := a4
        obtain ⟨rfl, rfl, rfl⟩ := a5
        rfl
    rw [← this]
  clear a0 a1 a2 a3 a4 a5 hl hx hg hn
  subst hcs
  have hc : ∀ (i : Nat) (p : Option Addr) (k c : Nat), (Rp.row ⟨s0, p0, k0, c0, q0, j0, d0, s1, p1, k1, c1, q1, j1, d1⟩ ++ Rp.row ⟨s2, p2, k2, c2, q2, j2, d2, s3, p3, k3, c3, q3, j3, d3⟩ ++ Rp.row ⟨s4, p4, k4, c4, q4, j4, d4, s5, p5, k5, c5, q5, j5, d5⟩)[i]? = some (.slice p k c) → ([4, 22, 22, 4, 22, 22, 4, 22, 22, 4, 22, 22, 4, 22, 22, 4, 22, 22] : List TypeId)[i % 18]? = some 22 → PlainP p := fun i p k c hi ht => by
    obtain ⟨u', hu, hok⟩ := hall i _ (by rw [List.getElem?_toArray]; exact hi)
    simp only [List.length_cons, List.length_nil, Nat.zero_add, Nat.reduceAdd] at hu
    rw [ht] at hu
    cases hu
    exact plain_cell hok
  exact ⟨_, _, _, rfl, ⟨⟨⟨hc 1 _ _ _ rfl rfl, b0⟩, hc 2 _ _ _ rfl rfl, e0⟩, ⟨hc 4 _ _ _ rfl rfl, b1⟩, hc 5 _ _ _ rfl rfl, e1⟩, ⟨⟨⟨hc 7 _ _ _ rfl rfl, b2⟩, hc 8 _ _ _ rfl rfl, e2⟩, ⟨hc 10 _ _ _ rfl rfl, b3⟩, hc 11 _ _ _ rfl rfl, e3⟩, ⟨⟨hc 13 _ _ _ rfl rfl, b4⟩, hc 14 _ _ _ rfl rfl, e4⟩, ⟨hc 16 _ _ _ rfl rfl, b5⟩, hc 17 _ _ _ rfl rfl, e5⟩
/-- A map's fractions, where these are not too large. -/
theorem mat_in {W : World} {x y z : Rp} (hx : PtIn W x) (hy : PtIn W y) (hz : PtIn W z) (hk : [x, y, z].all (Rp.ok 6) = true) : ∃ a b c d e f, MS 6 W (.agg (x.row ++ y.row ++ z.row).toArray) a b c d e f := by
  simp only [List.all_cons, List.all_nil, Bool.and_eq_true, Bool.and_true] at hk
  obtain ⟨a, b, h1⟩ := hx.ps hk.1
  obtain ⟨c, d, h2⟩ := hy.ps hk.2.1
  obtain ⟨e, f, h3⟩ := hz.ps hk.2.2
  have g1 := PS.split h1
  have g2 := PS.split h2
  have g3 := PS.split h3
  exact ⟨a, b, c, d, e, f, ms_mk g1.1 g1.2 g2.1 g2.2 g3.1 g3.2⟩
end Go.Proofs.YtafmfnpjhhaikaaGreatDoor
