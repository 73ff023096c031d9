/-
  Points as they came in; gessolaw06.Fair.
-/
import Derived.Test.YtafmfnpjhhaikaaGreatDoorZay
import Derived.Test.YtafmfnpjhhaikaaGreatDoorZas
import Derived.Test.YtafmfnpjhhaikaaGreatDoorCards
import Derived.Test.YtafmfnpjhhaikaaGreatDoorTie
import Derived.ProofKit
import Derived.LaidMore
import Derived.OpenShut
import Derived.Stop.Joined
import Derived.LaidSub
import Derived.SevenTiedAt
import Derived.Lib.LaidTab
import Derived.Deep.Slices
import Derived.Deep.Strs
import Derived.Lay
import Derived.Test.YtafmfnpjhhaikaaGreatDoorZar
namespace Go.Proofs.YtafmfnpjhhaikaaGreatDoor
open Go.RowKit Go.Shelf

theorem PS.split {k : Nat} {w : World} {c1 c2 c3 c4 c5 c6 : Value} {x y : Rat} (h : PS k w (.agg #[c1, c2, c3, c4, c5, c6]) x y) : RS k w (.agg #[c1, c2, c3]) x ∧ RS k w (.agg #[c4, c5, c6]) y := by
  obtain ⟨s1, u1, d1, s2, u2, d2, h0, h1, h2⟩ := h
  simp only [Value.agg.injEq, Array.mk.injEq, List.cons.injEq, and_true] at h0
  obtain ⟨rfl, rfl, rfl, rfl, rfl, rfl⟩ := h0
  exact ⟨h1, h2⟩
/-- A slice made of points as they came in. -/
def RpSl (l : List Rp) (v : Value) (w : World) : Prop := ∃ G, v = .slice (some ⟨G, 0, none⟩) l.length l.length ∧ ∀ (i : Nat) (x : Rp), l[i]? = some x → ∀ (r : Nat) (u : Value), x.row[r]? = some u → w.cell? ⟨G, i * 6 + r, none⟩ = some u
theorem RpSl.bel {l : List Rp} {v : Value} {w w' : World} (h : RpSl l v w) (hb : Bel w w') : RpSl l v w' := by
  obtain ⟨G, h1, h2⟩ := h
  exact ⟨G, h1, fun i x hx r u hu => hb.cell (h2 i x hx r u hu)⟩
theorem rows_at : ∀ (l : List Rp) (i : Nat) (x : Rp) (r : Nat) (u : Value), l[i]? = some x → x.row[r]? = some u → (l.flatMap Rp.row)[i * 6 + r]? = some u
  | [], _, _, _, _, h, _ => by simp at h
  | y :: l, 0, x, r, u, h, hu => by
    simp only [List.getElem?_cons_zero, Option.some.injEq] at h
    subst h
    rw [List.flatMap_cons, Nat.zero_mul, Nat.zero_add, List.getElem?_append_left (List.getElem?_eq_some_iff.1 hu).1]
    exact hu
  | y :: l, i + 1, x, r, u, h, hu => by
    have hl : y.row.length = 6 := rfl
    rw [List.flatMap_cons, List.getElem?_append_right (by omega), hl, show (i + 1) * 6 + r - 6 = i * 6 + r by omega]
    exact rows_at l i x r u (by simpa using h) hu
theorem au_rof {p : Int} {q : Nat} (hp1 : -9223372036854775808 ≤ p) (hp2 : p < 9223372036854775808) (hq : q < 9223372036854775808) (h0 : q ≠ 0) (w : World) :
    Calls Tryz.prog 45 #[.int .i64 p, .int .i64 (q : Int)] w (Makes w fun v w' => RN 1 w' v (mkRat p q)) := by
  refine (mk_rof hp1 hp2 (by omega) (by omega) (by omega) w).mono fun _ _ h => h.imp fun _ h => ?_
  rw [if_neg (by omega), Int.natAbs_natCast] at h
  exact ⟨h, sz_mk (by unfold B64; omega) (by unfold B64; omega) h0⟩
theorem byte_part {t : Nat} (ht : t < 256) : 0 ≤ mkRat (t : Nat) 255 ∧ mkRat (t : Nat) 255 ≤ 1 := by
  have e : mkRat (t : Nat) 255 * 255 = (t : Rat) := by
    rw [Rat.mkRat_eq_div]
    exact Rat.div_mul_cancel (by decide)
  have h0 : (0 : Rat) ≤ (t : Rat) := Rat.natCast_nonneg
  have h1 : (t : Rat) ≤ 255 := by
    have : ((t : Nat) : Rat) ≤ ((255 : Nat) : Rat) := Rat.natCast_le_natCast.2 (by omega)
    exact this
  constructor <;> grind
theorem RpSl.new (l : List Rp) (w : World) : RpSl l (.slice (some ⟨w.heap.size, 0, none⟩) l.length l.length) (w.alloc (.cells (l.flatMap Rp.row).toArray 28)) :=
  ⟨_, rfl, fun i x hx r u hu => by
    rw [heap_cell (heap_alloc_new w _), List.getElem?_toArray]
    exact rows_at l i x r u hx hu⟩
theorem au_fair {l : List Rp} {v : Value} {w : World} {b : Bool} (h : RpSl l v w) (hl : l.length < 1000000) (hf : l.all (Rp.ok 6) = b) : Calls Tryz.prog 12 #[v] w (Makes w fun u _ => u = .bool b) := by
  obtain ⟨G, rfl, hr⟩ := h
  rw [← hf]
  exact fair_any G l.length l w hr (Nat.le_refl _) hl
end Go.Proofs.YtafmfnpjhhaikaaGreatDoor

/-
  From the walks to the rows: a law that returns true and leaves what was there as it was meets its specification; how points and fractions that came in are read.
-/
namespace Go.Proofs.YtafmfnpjhhaikaaGreatDoor
open Go.ChangeShapes Go.WideShapes Go.ChangeAt Go.WideMaps Go.WideElems Go.RowKit Go.Deep

theorem trodAll_below {H : Type} {enc : TypeId × Value → H} {P : Program} (hl : laidOutB P = true) {W W' : World} (hb : Below W.heap.size W W') :
    ∀ (ts : List TypeId) (vs : List Value) (ds : List (DataW H)) (ps : List MemPlace), (∀ t ∈ ts, P.readableRec t = true ∧ t < P.types.size) → DataW.TrodAll enc P W 0 (fun _ => true) true ts vs ds ps → (∀ x ∈ ps, x.block < W.heap.size) →
      DataW.TrodAll enc P W' 0 (fun b => decide (b < W.heap.size)) true ts vs ds ps
  | [], [], [], ps, _, h, _ => h
  | t :: ts, v :: vs, d :: ds, ps, hr, h, hlt => by
    obtain ⟨p, q, h1, h2, rfl⟩ := h
    exact ⟨p, q, Below.trod hl (hr t (by simp)).1 (hr t (by simp)).2 h1 hb (fun x hx => hlt x (List.mem_append.2 (.inl hx))), trodAll_below hl hb ts vs ds q (fun t ht => hr t (by simp [ht])) h2 (fun x hx => hlt x (List.mem_append.2 (.inr hx))), rfl⟩
theorem law_post {H : Type} {enc : TypeId × Value → H} {P : Program} {f : Func} {s : ChangeSpec} {W W' : World} {args : Array Value} {ds : List (DataW H)} {before : List MemPlace} (hl : laidOutB P = true) (hv : s.vars = [])
    (hW : DataW.Whole enc P f.params.toList s.vars false W args.toList ds [] before) (hr : ∀ t ∈ f.params.toList, P.readableRec t = true ∧ t < P.types.size) (hres : f.resultTypes = #[4]) (h4 : P.underlying 4 = some .bool)
    (hs : (s.fn H (ds ++ [])) = { results := [.lit (.bool true)], args := ds }) (hb : Below W.heap.size W W') : s.post enc P f false true false false W args (.bool true) W' := by
  have hW' := hW
  obtain ⟨p, q, hA, hV, rfl, hfz, hnd⟩ := hW'
  rw [hv] at hV
  obtain ⟨_, rfl⟩ := trodVars_none hV
  refine ⟨ds, [], _, [], p, [], hW, ?_, ?_, ?_, hb.frame _, fun h => by cases h⟩
  · rw [hs, hres]
    exact trodAll_mk1 (shut_bool h4 _)
  · rw [hs]
    exact trodAll_below hl hb _ _ _ _ hr hA (fun x hx => by have := hW.lt x (by simpa using hx); exact this)
  · rw [hs, hv]
    rfl
theorem own : ownKnob Tryz.prog.godebug = none := by kernel_rfl
theorem laidOut : laidOutB Tryz.prog = true := by kernel_rfl
def lay : List (String × DataW Unit) := [("unicode/utf8.acceptRanges", Rows.laid_unicode_utf8_acceptRanges), ("unicode/utf8.first", Rows.laid_unicode_utf8_first)]
theorem cellsU64 : Tryz.prog.cellsOf 105 = 1 := by kernel_rfl
theorem cellsBool : Tryz.prog.cellsOf 4 = 1 := by kernel_rfl
theorem cellsLimbs : Tryz.prog.cellsOf 22 = 1 := by kernel_rfl
theorem cellsInt2 : Tryz.prog.cellsOf 24 = 2 := by kernel_rfl
theorem cellsRat : Tryz.prog.cellsOf 26 = 3 := by kernel_rfl
theorem cellsPt : Tryz.prog.cellsOf 28 = 6 := by kernel_rfl
theorem u64_of {H : Type} {enc : TypeId × Value → H} {W : World} {b : Nat} {sp : Nat → Bool} {held : Bool} {n : Nat} {v : Value} {y : DataW H × List MemPlace} (h : DataW.trod enc Tryz.prog W b sp held n 105 [v] = some y) : ∃ x : Nat, v = .int .u64 (x : Int) ∧ x < B64 := by
  obtain ⟨z, hz, _, hw⟩ := DataW.trod_int Tryz.underlying105 h
  have := bounds_u64 hw
  simp only [List.cons.injEq, and_true] at hz
  exact ⟨z.toNat, by rw [hz]; congr 1; omega, by unfold B64; omega⟩
theorem list_any {α : Type} {p : Nat → α → Prop} : ∀ n, (∀ i, i < n → ∃ s, p i s) → ∃ l : List α, l.length = n ∧ ∀ (i : Nat) s, l[i]? = some s → p i s
  | 0, _ => ⟨[], rfl, by simp⟩
  | n + 1, h => by
    obtain ⟨l, hl, hp⟩ := list_any n (fun i hi => h i (by omega))
    obtain ⟨s, hs⟩ := h n (by omega)
    refine ⟨l ++ [s], by simp [hl], fun i t ht => ?_⟩
    by_cases hi : i < n
    · rw [List.getElem?_append_left (by omega)] at ht
      exact hp i t ht
    · have hin : i = n := by
        have := (List.getElem?_eq_some_iff.1 ht).1
        simp at this
        omega
      subst hin
      rw [List.getElem?_append_right (by omega), hl] at ht
      simp at ht
      subst ht
      exact hs
theorem addr_plain {W : World} {a : Addr} {v : Value} (h : W.cell? (a.add 0) = some v) : ∃ b o, a = ⟨b, o, none⟩ := by
  obtain ⟨b, o, sp⟩ := a
  cases sp with
  | none => exact ⟨b, o, rfl⟩
  | some z =>
    exfalso
    unfold World.cell? Addr.add at h
    (repeat' split at h) <;> simp_all
set_option maxRecDepth 100000 in
/-- A row of limbs that came in. -/
theorem opened_limbs {H : Type} {enc : TypeId × Value → H} {W : World} {n : Nat} {c : Value} {y : DataW H × List MemPlace} (h : DataW.trod enc Tryz.prog W 0 (fun _ => true) true n 22 [c] = some y) :
    ∃ (p : Option Addr) (k cp : Nat) (l : List Nat), c = .slice p k cp ∧ l.length = k ∧ R64 W (.slice p k cp) l := by
  rcases open_slice Tryz.underlying22 h with ⟨hcs, _⟩ | ⟨a, len, cap, m, k, D, Pl, hcs, _, hl, hm, hmm, _, hall⟩
  · simp only [List.cons.injEq, and_true] at hcs
    subst hcs
    exact ⟨none, 0, 0, [], rfl, rfl, LRow.nil _ _ _⟩
  · simp only [List.cons.injEq, and_true] at hcs
    subst hcs
    simp only [if_true] at hmm
    have hgo : ∀ i, i < len → ∃ x : Nat, W.cell? (a.add i) = some (.int .u64 (x : Int)) ∧ x < B64 := fun i hi => by
      obtain ⟨cs, h1, h2⟩ := hall i (by omega)
      rw [cellsU64, Nat.mul_one] at h1
      obtain ⟨_, hlen, _⟩ := World.cells?_some h1
      match cs, hlen with
      | [v], _ =>
        obtain ⟨x, rfl, hx⟩ := u64_of h2
        exact ⟨x, cell_of_cells?_one h1, hx⟩
    obtain ⟨l, hll, hp⟩ := list_any len hgo
    refine ⟨some a, len, cap, l, rfl, hll, some a, cap, by rw [hll], by omega, fun x hx => ?_, fun hne => ?_⟩
    · obtain ⟨i, hi⟩ := List.getElem?_of_mem hx
      exact (hp i x hi).2
    · have hpos : 0 < l.length := List.length_pos_iff.2 hne
      obtain ⟨b, o, rfl⟩ := addr_plain (hp 0 _ (List.getElem?_eq_getElem hpos)).1
      refine ⟨b, o, rfl, fun j x hj => ?_⟩
      have := (hp j x hj).1
      rwa [Addr.add_lit] at this
set_option maxRecDepth 100000 in
theorem plain_cell {W : World} {r : Reach} {base : Nat} {p : Option Addr} {k c : Nat} (h : Cell.okWide Tryz.prog W r base 22 (.slice p k c)) : PlainP p := by
  cases p with
  | none => exact .inl rfl
  | some a =>
    right
    simp only [Cell.okWide, Tryz.underlying22, Cell.ok, World.has] at h
    obtain ⟨b, o, sp⟩ := a
    obtain ⟨-, -, -, hs, -⟩ := h
    simp only at hs
    exact ⟨b, o, by rw [hs]⟩
/-- A slice of limbs that came in. -/
def Limbs (W : World) (p : Option Addr) (k c : Nat) : Prop := PlainP p ∧ ∃ l : List Nat, l.length = k ∧ R64 W (.slice p k c) l
theorem Limbs.ni {W : World} {p : Option Addr} {k c : Nat} (h : Limbs W p k c) (hk : k < 400000000) : ∃ n, NI W (.slice p k c) n ∧ n < B64 ^ k := by
  obtain ⟨hp, l, rfl, hr⟩ := h
  exact ⟨valB B64 l, ⟨p, c, l, rfl, hr, hp, rfl, hk⟩, val_lt hr.all⟩
/-- The slices of a point. -/
def PtIn (W : World) (x : Rp) : Prop := (Limbs W x.p1 x.k1 x.c1 ∧ Limbs W x.q1 x.j1 x.d1) ∧ Limbs W x.p2 x.k2 x.c2 ∧ Limbs W x.q2 x.j2 x.d2
theorem rs_of {W : World} {s : Bool} {p q : Option Addr} {k c j d m : Nat} (h1 : Limbs W p k c) (h2 : Limbs W q j d) (hk : k ≤ m) (hj : j ≤ m) (hm : m ≤ LimK) (h0 : 0 < m) : ∃ x, RS m W (.agg #[.bool s, .slice p k c, .slice q j d]) x := by
  unfold LimK at hm
  obtain ⟨a, ha, hal⟩ := h1.ni (by omega)
  obtain ⟨b, hb, hbl⟩ := h2.ni (by omega)
  exact ⟨ratOf s a b, ⟨s, _, _, a, b, rfl, ha, hb, rfl⟩, sz_of (Nat.lt_of_lt_of_le hal (Nat.pow_le_pow_right b64_pos hk)) (Nat.lt_of_lt_of_le hbl (Nat.pow_le_pow_right b64_pos hj)) h0⟩
theorem PtIn.ps {W : World} {x : Rp} (h : PtIn W x) (hk : x.ok 6 = true) : ∃ X Y, PS 6 W (.agg x.row.toArray) X Y := by
  unfold Rp.ok at hk
  have hk := of_decide_eq_true hk
  obtain ⟨X, hX⟩ := rs_of (s := x.s1) h.1.1 h.1.2 hk.1.1 hk.1.2 (by decide) (by decide)
  obtain ⟨Y, hY⟩ := rs_of (s := x.s2) h.2.1 h.2.2 hk.2.1 hk.2.2 (by decide) (by decide)
  exact ⟨X, Y, _, _, _, _, _, _, rfl, hX, hY⟩
set_option maxRecDepth 100000 in
theorem int_open {H : Type} {enc : TypeId × Value → H} {W : World} {n : Nat} {cs : List Value} {x : DataW H × List MemPlace} (h : DataW.trod enc Tryz.prog W 0 (fun _ => true) true n 24 cs = some x) :
    ∃ (s : Bool) (p : Option Addr) (k c : Nat) (l : List Nat), cs = [.bool s, .slice p k c] ∧ l.length = k ∧ R64 W (.slice p k c) l := by
  obtain ⟨y0, y1, m, _, hl, h0, h1⟩ := trod_struct2 Tryz.underlying24 h
  rw [cellsInt2] at hl
  match cs, hl with
  | [c0, c1], _ =>
    dsimp only at h0 h1
    rw [cellsBool] at h0
    rw [cellsLimbs] at h1
    simp only [List.drop_zero, List.drop_succ_cons, List.take_succ_cons, List.take_zero] at h0 h1
    obtain ⟨s, hs, _⟩ := DataW.trod_bool Tryz.underlying4 h0
    simp only [List.cons.injEq, and_true] at hs
    subst hs
    obtain ⟨p, k, c, l, rfl, h2, h3⟩ := opened_limbs h1
    exact ⟨s, p, k, c, l, rfl, h2, h3⟩
set_option maxRecDepth 100000 in
theorem rat_open {H : Type} {enc : TypeId × Value → H} {W : World} {n : Nat} {cs : List Value} {x : DataW H × List MemPlace} (h : DataW.trod enc Tryz.prog W 0 (fun _ => true) true n 26 cs = some x) :
    ∃ (s : Bool) (p : Option Addr) (k c : Nat) (q : Option Addr) (j d : Nat), cs = [.bool s, .slice p k c, .slice q j d] ∧ (∃ l : List Nat, l.length = k ∧ R64 W (.slice p k c) l) ∧ ∃ l : List Nat, l.length = j ∧ R64 W (.slice q j d) l := by
  obtain ⟨y0, y1, m, _, hl, h0, h1⟩ := trod_struct2 Tryz.underlying26 h
  rw [cellsRat] at hl
  match cs, hl with
  | [c0, c1, c2], _ =>
    dsimp only at h0 h1
    rw [cellsInt2] at h0
    rw [cellsLimbs] at h1
    simp only [List.drop_zero, List.drop_succ_cons, List.take_succ_cons, List.take_zero] at h0 h1
    obtain ⟨s, p, k, c, l, hs, h2, h3⟩ := int_open h0
    simp only [List.cons.injEq, and_true] at hs
    obtain ⟨rfl, rfl⟩ := hs
    obtain ⟨q, j, d, l', rfl, h4, h5⟩ := opened_limbs h1
    exact ⟨s, p, k, c, q, j, d, rfl, ⟨l, h2, h3⟩, l', h4, h5⟩
set_option maxRecDepth 100000 in
theorem pt_open {H : Type} {enc : TypeId × Value → H} {W : World} {n : Nat} {cs : List Value} {x : DataW H × List MemPlace} (h : DataW.trod enc Tryz.prog W 0 (fun _ => true) true n 28 cs = some x) :
    ∃ x : Rp, cs = x.row ∧ ((∃ l : List Nat, l.length = x.k1 ∧ R64 W (.slice x.p1 x.k1 x.c1) l) ∧ ∃ l : List Nat, l.length = x.j1 ∧ R64 W (.slice x.q1 x.j1 x.d1) l) ∧ (∃ l : List Nat, l.length = x.k2 ∧ R64 W (.slice x.p2 x.k2 x.c2) l) ∧ ∃ l : List Nat, l.length = x.j2 ∧ R64 W (.slice x.q2 x.j2 x.d2) l := by
  obtain ⟨y0, y1, m, _, hl, h0, h1⟩ := trod_struct2 Tryz.underlying28 h
  rw [cellsPt] at hl
  match cs, hl with
  | [c0, c1, c2, c3, c4, c5], _ =>
    dsimp only at h0 h1
    rw [cellsRat] at h0 h1
    simp only [List.drop_zero, List.drop_succ_cons, List.take_succ_cons, List.take_zero] at h0 h1
    obtain ⟨s1, p1, k1, e1, q1, j1, d1, hs, h2, h3⟩ := rat_open h0
    obtain ⟨s2, p2, k2, e2, q2, j2, d2, ht, h4, h5⟩ := rat_open h1
    simp only [List.cons.injEq, and_true] at hs ht
    obtain ⟨rfl, rfl, rfl⟩ := hs
    obtain ⟨rfl, rfl, rfl⟩ := ht
    exact ⟨⟨s1, p1, k1, e1, q1, j1, d1, s2, p2, k2, e2, q2, j2, d2⟩, rfl, ⟨h2, h3⟩, h4, h5⟩
theorem ptTypes : Tryz.prog.cellTypes Tryz.prog.depth 28 = some [4, 22, 22, 4, 22, 22] := by kernel_rfl
set_option maxRecDepth 100000 in
/-- A point that came in. -/
theorem opened_pt {H : Type} {enc : TypeId × Value → H} {W : World} {r : Reach} {base : Nat} {v : Value} {d : DataW H} {p : List MemPlace} (h : DataW.Trod enc Tryz.prog W 0 (fun _ => true) true 28 v d p) (hv : Value.okWide Tryz.prog W r base 28 v) :
    ∃ x : Rp, v = .agg x.row.toArray ∧ PtIn W x := by
  simp only [Value.okWide, Tryz.underlying28] at hv
  obtain ⟨cs, rfl, -, ts, hts, -, hall⟩ := hv
  rw [ptTypes] at hts
  simp only [Option.some.injEq] at hts
  subst hts
  obtain ⟨n, hn⟩ := h
  obtain ⟨x, hx, ⟨h1, h2⟩, h3, h4⟩ := pt_open hn
  have hx' : cs = x.row.toArray := by
    have : cs.toList = x.row := hx
    rw [← this]
  subst hx'
  have hc : ∀ (i : Nat) (p : Option Addr) (k c : Nat) (u : TypeId), x.row[i]? = some (.slice p k c) → ([4, 22, 22, 4, 22, 22] : List TypeId)[i % 6]? = some 22 → PlainP p := fun i p k c u hi ht => by
    obtain ⟨u', hu, hok⟩ := hall i _ (by rw [List.getElem?_toArray]; exact hi)
    simp only [List.length_cons, List.length_nil, Nat.zero_add, Nat.reduceAdd] at hu
    rw [ht] at hu
    cases hu
    exact plain_cell hok
  exact ⟨x, rfl, ⟨⟨hc 1 _ _ _ 0 rfl rfl, h1⟩, hc 2 _ _ _ 0 rfl rfl, h2⟩, ⟨hc 4 _ _ _ 0 rfl rfl, h3⟩, hc 5 _ _ _ 0 rfl rfl, h4⟩
end Go.Proofs.YtafmfnpjhhaikaaGreatDoor

/-
  The plain laws of chapter 6.
-/
namespace Go.Proofs.YtafmfnpjhhaikaaGreatDoor

theorem cmpR_neg (x : Rat) : cmpR (-x) 0 = -cmpR x 0 := by
  unfold cmpR
  by_cases h : x < 0
  · rw [if_pos h, if_neg (by grind), if_neg (by grind)]; rfl
  · by_cases h0 : x = 0
    · subst h0; rfl
    · rw [if_neg h, if_neg h0, if_pos (by grind)]
theorem cmpR_same (x : Rat) : cmpR x x = 0 := cmpR_eq.2 rfl
section
variable (xa ya xb yb xc yc m n : Rat)
theorem turns1 : cmpR ((xc - xb) * (ya - yb) - (yc - yb) * (xa - xb)) 0 = cmpR ((xb - xa) * (yc - ya) - (yb - ya) * (xc - xa)) 0 := congrArg (cmpR · 0) (by grind)
theorem turns2 : cmpR ((xa - xc) * (yb - yc) - (ya - yc) * (xb - xc)) 0 = cmpR ((xb - xa) * (yc - ya) - (yb - ya) * (xc - xa)) 0 := congrArg (cmpR · 0) (by grind)
theorem turns3 : cmpR ((xa - xb) * (yc - yb) - (ya - yb) * (xc - xb)) 0 = -cmpR ((xb - xa) * (yc - ya) - (yb - ya) * (xc - xa)) 0 := by
  rw [← cmpR_neg]
  exact congrArg (cmpR · 0) (by grind)
theorem turns4 : cmpR ((xc - xa) * (yb - ya) - (yc - ya) * (xb - xa)) 0 = -cmpR ((xb - xa) * (yc - ya) - (yb - ya) * (xc - xa)) 0 := by
  rw [← cmpR_neg]
  exact congrArg (cmpR · 0) (by grind)
theorem turns5 : cmpR (((xb + m) - (xa + m)) * ((yc + n) - (ya + n)) - ((yb + n) - (ya + n)) * ((xc + m) - (xa + m))) 0 = cmpR ((xb - xa) * (yc - ya) - (yb - ya) * (xc - xa)) 0 := congrArg (cmpR · 0) (by grind)
theorem turns6 : cmpR (farR xa ya xb yb) (farR xb yb xa ya) = 0 := cmpR_eq.2 (by unfold farR; grind)
variable (xp yp xq yq : Rat)
theorem squares1 : cmpR (((xp * xq + yp * yq) * (xp * xq + yp * yq)) + ((xp * yq - yp * xq) * (xp * yq - yp * xq))) ((xp * xp + yp * yp) * (xq * xq + yq * yq)) = 0 := cmpR_eq.2 (by grind)
theorem squares2 : cmpR (farR xp yp xq yq) (((xp - xq) * (xp - xq)) + ((yp - yq) * (yp - yq))) = 0 := cmpR_eq.2 rfl
theorem squares3 : cmpR (xp * yp - yp * xp) 0 = 0 := cmpR_eq.2 (by grind)
theorem squares4 : cmpR (xq * yp - yq * xp) (-(xp * yq - yp * xq)) = 0 := cmpR_eq.2 (by grind)
theorem squares5 : decide (((xp + xq) - xq) = xp ∧ ((yp + yq) - yq) = yp) = true := decide_eq_true ⟨by grind, by grind⟩
end
end Go.Proofs.YtafmfnpjhhaikaaGreatDoor

/-
  gessolaw06.PtTurns (printed by gen_la.py).
-/
namespace Go.Proofs.YtafmfnpjhhaikaaGreatDoor
open Go.RowKit Go.Shelf

set_option maxHeartbeats 4000000 in
set_option maxRecDepth 100000 in
theorem ptTurns_fair {w : World} (a : Rp) (b : Rp) (c : Rp) {xa ya : Rat} {xb yb : Rat} {xc yc : Rat} (ha : PS 6 w (.agg a.row.toArray) xa ya) (hb : PS 6 w (.agg b.row.toArray) xb yb) (hc : PS 6 w (.agg c.row.toArray) xc yc) (HFAIR : [a, b, c].all (Rp.ok 6) = true) : Calls Tryz.prog 5 #[.agg a.row.toArray, .agg b.row.toArray, .agg c.row.toArray] w (Makes w fun v _ => v = .bool true) := by
  obtain ⟨sa1, pa1, ka1, ca1, qa1, ja1, da1, sa2, pa2, ka2, ca2, qa2, ja2, da2⟩ := a
  obtain ⟨sb1, pb1, kb1, cb1, qb1, jb1, db1, sb2, pb2, kb2, cb2, qb2, jb2, db2⟩ := b
  obtain ⟨sc1, pc1, kc1, cc1, qc1, jc1, dc1, sc2, pc2, kc2, cc2, qc2, jc2, dc2⟩ := c
  replace ha : PS 6 w (.agg #[.bool sa1, .slice pa1 ka1 ca1, .slice qa1 ja1 da1, .bool sa2, .slice pa2 ka2 ca2, .slice qa2 ja2 da2]) xa ya := ha
  replace hb : PS 6 w (.agg #[.bool sb1, .slice pb1 kb1 cb1, .slice qb1 jb1 db1, .bool sb2, .slice pb2 kb2 cb2, .slice qb2 jb2 db2]) xb yb := hb
  replace hc : PS 6 w (.agg #[.bool sc1, .slice pc1 kc1 cc1, .slice qc1 jc1 dc1, .bool sc2, .slice pc2 kc2 cc2, .slice qc2 jc2 dc2]) xc yc := hc
  change Calls _ _ #[.agg #[.bool sa1, .slice pa1 ka1 ca1, .slice qa1 ja1 da1, .bool sa2, .slice pa2 ka2 ca2, .slice qa2 ja2 da2], .agg #[.bool sb1, .slice pb1 kb1 cb1, .slice qb1 jb1 db1, .bool sb2, .slice pb2 kb2 cb2, .slice qb2 jb2 db2], .agg #[.bool sc1, .slice pc1 kc1 cc1, .slice qc1 jc1 dc1, .bool sc2, .slice pc2 kc2 cc2, .slice qc2 jc2 dc2]] _ _
  have HPa := Lib.hid ha
  have HPa1 := Lib.hid ha.split.1
  have HPa2 := Lib.hid ha.split.2
  clear ha
  have HPb := Lib.hid hb
  have HPb1 := Lib.hid hb.split.1
  have HPb2 := Lib.hid hb.split.2
  clear hb
  have HPc := Lib.hid hc
  have HPc1 := Lib.hid hc.split.1
  have HPc2 := Lib.hid hc.split.2
  clear hc
  have HC1_4 : Hid (∀ X u0, RpSl [⟨sa1, pa1, ka1, ca1, qa1, ja1, da1, sa2, pa2, ka2, ca2, qa2, ja2, da2⟩, ⟨sb1, pb1, kb1, cb1, qb1, jb1, db1, sb2, pb2, kb2, cb2, qb2, jb2, db2⟩, ⟨sc1, pc1, kc1, cc1, qc1, jc1, dc1, sc2, pc2, kc2, cc2, qc2, jc2, dc2⟩] u0 X → Calls Tryz.prog 12 #[u0] X (Makes X fun v _ => v = .bool true)) := fun X u0 h0 => au_fair h0 (by simp) HFAIR
  obtain ⟨C1, hC1⟩ : ∃ Z, cmpR ((xb - xa) * (yc - ya) - (yb - ya) * (xc - xa)) 0 = Z := ⟨_, rfl⟩
  have HC3_3 : Hid (∀ X u0 u1 u2, PS 6 X u0 xa ya → PS 6 X u1 xb yb → PS 6 X u2 xc yc → Calls Tryz.prog 37 #[u0, u1, u2] X (Makes X fun v _ => v = .int .i64 C1)) := fun X u0 u1 u2 h0 h1 h2 => by subst hC1; exact mk_orient (i := 6) h0 h1 h2 (by decide)
  obtain ⟨R1, hR1⟩ : ∃ Z, ((7 : Int) : Rat) = Z := ⟨_, rfl⟩
  obtain ⟨R2, hR2⟩ : ∃ Z, ((-3 : Int) : Rat) = Z := ⟨_, rfl⟩
  have HC4_0 : Hid (∀ X, Calls Tryz.prog 43 #[.int .i64 7, .int .i64 (-3)] X (Makes X fun v w => PN 1 w v R1 R2)) := fun X => by subst hR1 hR2; exact au_P (p := 7) (q := -3) (by decide) (by decide) (by decide) (by decide) X
  obtain ⟨C2, hC2⟩ : ∃ Z, cmpR ((xc - xb) * (ya - yb) - (yc - yb) * (xa - xb)) 0 = Z := ⟨_, rfl⟩
  have HC5_3 : Hid (∀ X u0 u1 u2, PS 6 X u0 xb yb → PS 6 X u1 xc yc → PS 6 X u2 xa ya → Calls Tryz.prog 37 #[u0, u1, u2] X (Makes X fun v _ => v = .int .i64 C2)) := fun X u0 u1 u2 h0 h1 h2 => by subst hC2; exact mk_orient (i := 6) h0 h1 h2 (by decide)
  obtain ⟨C3, hC3⟩ : ∃ Z, cmpR ((xa - xc) * (yb - yc) - (ya - yc) * (xb - xc)) 0 = Z := ⟨_, rfl⟩
  have HC5_10 : Hid (∀ X u0 u1 u2, PS 6 X u0 xc yc → PS 6 X u1 xa ya → PS 6 X u2 xb yb → Calls Tryz.prog 37 #[u0, u1, u2] X (Makes X fun v _ => v = .int .i64 C3)) := fun X u0 u1 u2 h0 h1 h2 => by subst hC3; exact mk_orient (i := 6) h0 h1 h2 (by decide)
  obtain ⟨C4, hC4⟩ : ∃ Z, cmpR ((xa - xb) * (yc - yb) - (ya - yb) * (xc - xb)) 0 = Z := ⟨_, rfl⟩
  have HC5_18 : Hid (∀ X u0 u1 u2, PS 6 X u0 xb yb → PS 6 X u1 xa ya → PS 6 X u2 xc yc → Calls Tryz.prog 37 #[u0, u1, u2] X (Makes X fun v _ => v = .int .i64 C4)) := fun X u0 u1 u2 h0 h1 h2 => by subst hC4; exact mk_orient (i := 6) h0 h1 h2 (by decide)
  obtain ⟨C5, hC5⟩ : ∃ Z, cmpR ((xc - xa) * (yb - ya) - (yc - ya) * (xb - xa)) 0 = Z := ⟨_, rfl⟩
  have HC5_27 : Hid (∀ X u0 u1 u2, PS 6 X u0 xa ya → PS 6 X u1 xc yc → PS 6 X u2 xb yb → Calls Tryz.prog 37 #[u0, u1, u2] X (Makes X fun v _ => v = .int .i64 C5)) := fun X u0 u1 u2 h0 h1 h2 => by subst hC5; exact mk_orient (i := 6) h0 h1 h2 (by decide)
  obtain ⟨R3, hR3⟩ : ∃ Z, xa + R1 = Z := ⟨_, rfl⟩
  obtain ⟨R4, hR4⟩ : ∃ Z, ya + R2 = Z := ⟨_, rfl⟩
  have HC5_35 : Hid (∀ X u0 u1, PS 6 X u0 xa ya → PN 1 X u1 R1 R2 → Calls Tryz.prog 21 #[u0, u1] X (Makes X fun v w => PN 8 w v R3 R4)) := fun X u0 u1 h0 h1 => by subst hR3 hR4; exact au_padd (i := 6) (j := 1) h0 (h1.ps (by decide)) (by decide)
  obtain ⟨R5, hR5⟩ : ∃ Z, xb + R1 = Z := ⟨_, rfl⟩
  obtain ⟨R6, hR6⟩ : ∃ Z, yb + R2 = Z := ⟨_, rfl⟩
  have HC5_38 : Hid (∀ X u0 u1, PS 6 X u0 xb yb → PN 1 X u1 R1 R2 → Calls Tryz.prog 21 #[u0, u1] X (Makes X fun v w => PN 8 w v R5 R6)) := fun X u0 u1 h0 h1 => by subst hR5 hR6; exact au_padd (i := 6) (j := 1) h0 (h1.ps (by decide)) (by decide)
  obtain ⟨R7, hR7⟩ : ∃ Z, xc + R1 = Z := ⟨_, rfl⟩
  obtain ⟨R8, hR8⟩ : ∃ Z, yc + R2 = Z := ⟨_, rfl⟩
  have HC5_41 : Hid (∀ X u0 u1, PS 6 X u0 xc yc → PN 1 X u1 R1 R2 → Calls Tryz.prog 21 #[u0, u1] X (Makes X fun v w => PN 8 w v R7 R8)) := fun X u0 u1 h0 h1 => by subst hR7 hR8; exact au_padd (i := 6) (j := 1) h0 (h1.ps (by decide)) (by decide)
  obtain ⟨C6, hC6⟩ : ∃ Z, cmpR ((R5 - R3) * (R8 - R4) - (R6 - R4) * (R7 - R3)) 0 = Z := ⟨_, rfl⟩
  have HC5_42 : Hid (∀ X u0 u1 u2, PN 8 X u0 R3 R4 → PN 8 X u1 R5 R6 → PN 8 X u2 R7 R8 → Calls Tryz.prog 37 #[u0, u1, u2] X (Makes X fun v _ => v = .int .i64 C6)) := fun X u0 u1 u2 h0 h1 h2 => by subst hC6; exact mk_orient (i := 8) (h0.ps (by decide)) (h1.ps (by decide)) (h2.ps (by decide)) (by decide)
  obtain ⟨R9, hR9⟩ : ∃ Z, farR xa ya xb yb = Z := ⟨_, rfl⟩
  have HC5_49 : Hid (∀ X u0 u1, PS 6 X u0 xa ya → PS 6 X u1 xb yb → Calls Tryz.prog 39 #[u0, u1] X (Makes X fun v w => RN 53 w v R9)) := fun X u0 u1 h0 h1 => by subst hR9; exact au_far (i := 6) (j := 6) h0 h1 (by decide)
  obtain ⟨R10, hR10⟩ : ∃ Z, farR xb yb xa ya = Z := ⟨_, rfl⟩
  have HC5_52 : Hid (∀ X u0 u1, PS 6 X u0 xb yb → PS 6 X u1 xa ya → Calls Tryz.prog 39 #[u0, u1] X (Makes X fun v w => RN 53 w v R10)) := fun X u0 u1 h0 h1 => by subst hR10; exact au_far (i := 6) (j := 6) h0 h1 (by decide)
  obtain ⟨C7, hC7⟩ : ∃ Z, cmpR R9 R10 = Z := ⟨_, rfl⟩
  have HC5_53 : Hid (∀ X u0 u1, RN 53 X u0 R9 → RN 53 X u1 R10 → Calls Tryz.prog 44 #[u0, u1] X (Makes X fun v _ => v = .int .i64 C7)) := fun X u0 u1 h0 h1 => by subst hC7; exact mk_rcmp (i := 53) (j := 53) (h0.rs (by decide)) (h1.rs (by decide)) (by decide)
  have HC5_57 : Hid (∀ X, Calls Tryz.prog 14 #[] X (Makes X fun v _ => v = .bool true)) := fun X => wakes06_any X
  have HBDC1 : Hid (-1 ≤ C1 ∧ C1 ≤ 1) := by unfold Hid; rw [← hC1]; exact cmpR_bound _ _
  have HL5_5 : Hid (C2 = C1) := by unfold Hid; subst hC2 hC1; apply turns1
  have HL5_12 : Hid (C3 = C1) := by unfold Hid; subst hC3 hC1; apply turns2
  have HL5_21 : Hid (C4 = (-C1)) := by unfold Hid; subst hC4 hC1; apply turns3
  have HL5_30 : Hid (C5 = (-C1)) := by unfold Hid; subst hC5 hC1; apply turns4
  have HL5_44 : Hid (C6 = C1) := by unfold Hid; subst hC6 hR8 hR7 hR6 hR5 hR4 hR3 hR2 hR1 hC1; apply turns5
  have HL5_54 : Hid (C7 = 0) := by unfold Hid; subst hC7 hR10 hR9; apply turns6
  clear hC1 hR1 hR2 hC2 hC3 hC4 hC5 hR3 hR4 hR5 hR6 hR7 hR8 hC6 hR9 hR10 hC7
  go_enter Tryz.func5, Tryz.ntmps5
  go_upto_region 1 with fail
  obtain ⟨hXa, hXb, hXc, hbw⟩ := boxes3 w (.cells #[.bool sa1, .slice pa1 ka1 ca1, .slice qa1 ja1 da1, .bool sa2, .slice pa2 ka2 ca2, .slice qa2 ja2 da2] 28) (.cells #[.bool sb1, .slice pb1 kb1 cb1, .slice qb1 jb1 db1, .bool sb2, .slice pb2 kb2 cb2, .slice qb2 jb2 db2] 28) (.cells #[.bool sc1, .slice pc1 kc1 cc1, .slice qc1 jc1 dc1, .bool sc2, .slice pc2 kc2 cc2, .slice qc2 jc2 dc2] 28)
  obtain ⟨W, hW⟩ : ∃ W, ((w.alloc (.cells #[.bool sa1, .slice pa1 ka1 ca1, .slice qa1 ja1 da1, .bool sa2, .slice pa2 ka2 ca2, .slice qa2 ja2 da2] 28)).alloc (.cells #[.bool sb1, .slice pb1 kb1 cb1, .slice qb1 jb1 db1, .bool sb2, .slice pb2 kb2 cb2, .slice qb2 jb2 db2] 28)).alloc (.cells #[.bool sc1, .slice pc1 kc1 cc1, .slice qc1 jc1 dc1, .bool sc2, .slice pc2 kc2 cc2, .slice qc2 jc2 dc2] 28) = W := ⟨_, rfl⟩
  rw [hW] at hXa hXb hXc hbw ⊢
  obtain ⟨Xa, eXa⟩ : ∃ X, w.heap.size = X := ⟨_, rfl⟩
  obtain ⟨Xb, eXb⟩ : ∃ X, Xa + 1 = X := ⟨_, rfl⟩
  obtain ⟨Xc, eXc⟩ : ∃ X, Xb + 1 = X := ⟨_, rfl⟩
  rw [eXa, eXb, eXc]
  rw [eXa] at hXa hXb hXc
  rw [eXb] at hXb hXc
  rw [eXc] at hXc
  have HXa := Lib.hid hXa
  have HXb := Lib.hid hXb
  have HXc := Lib.hid hXc
  have HBW := Lib.hid hbw
  have HGEXa : Hid (w.heap.size ≤ Xa) := by unfold Hid; omega
  have HGEXb : Hid (w.heap.size ≤ Xb) := by unfold Hid; omega
  have HGEXc : Hid (w.heap.size ≤ Xc) := by unfold Hid; omega
  have HLT : Hid (Xa < Xb ∧ Xb < Xc) := by unfold Hid; omega
  clear hW hbw hXa hXb hXc eXa eXb eXc
  refine line_region 6 [[], [], [], [0, 1, 2], [3], [4]] [.is (.agg #[.bool sa1, .slice pa1 ka1 ca1, .slice qa1 ja1 da1, .bool sa2, .slice pa2 ka2 ca2, .slice qa2 ja2 da2]), .is (.agg #[.bool sb1, .slice pb1 kb1 cb1, .slice qb1 jb1 db1, .bool sb2, .slice pb2 kb2 cb2, .slice qb2 jb2 db2]), .is (.agg #[.bool sc1, .slice pc1 kc1 cc1, .slice qc1 jc1 dc1, .bool sc2, .slice pc2 kc2 cc2, .slice qc2 jc2 dc2]), .has (fun v w => RpSl [⟨sa1, pa1, ka1, ca1, qa1, ja1, da1, sa2, pa2, ka2, ca2, qa2, ja2, da2⟩, ⟨sb1, pb1, kb1, cb1, qb1, jb1, db1, sb2, pb2, kb2, cb2, qb2, jb2, db2⟩, ⟨sc1, pc1, kc1, cc1, qc1, jc1, dc1, sc2, pc2, kc2, cc2, qc2, jc2, dc2⟩] v w), .is (.bool true), .is (.bool false)] rfl rfl (by decide) (by simp only [Steady]; exact ⟨fun _ _ _ h hb => h.bel hb, trivial⟩) ?_
  simp only [List.take_succ_cons, List.take_zero, List.drop_succ_cons, List.drop_zero]
  refine fV (by rfl) (by intro w1 hw1 hk1; obtain ⟨c0, c1, c2, c3, c4, c5⟩ := boxc6 (hw1.heap HXa.out); go_simp) ?_
  simp only [Act.put, sA, sB, sC]
  refine fV (by rfl) (by intro w1 hw1 hk1; obtain ⟨c0, c1, c2, c3, c4, c5⟩ := boxc6 (hw1.heap HXb.out); go_simp) ?_
  simp only [Act.put, sA, sB, sC]
  refine fV (by rfl) (by intro w1 hw1 hk1; obtain ⟨c0, c1, c2, c3, c4, c5⟩ := boxc6 (hw1.heap HXc.out); go_simp) ?_
  simp only [Act.put, sA, sB, sC]
  refine flow_has (by intro w1 hw1 hk1; refine want (by rfl) (gives_new (c := .slice (some ⟨w1.heap.size, 0, none⟩) 3 3) (w' := w1.alloc (.cells #[.bool sa1, .slice pa1 ka1 ca1, .slice qa1 ja1 da1, .bool sa2, .slice pa2 ka2 ca2, .slice qa2 ja2 da2, .bool sb1, .slice pb1 kb1 cb1, .slice qb1 jb1 db1, .bool sb2, .slice pb2 kb2 cb2, .slice qb2 jb2 db2, .bool sc1, .slice pc1 kc1 cc1, .slice qc1 jc1 dc1, .bool sc2, .slice pc2 kc2 cc2, .slice qc2 jc2 dc2] 28)) (by go_simp) ((Bel.refl w1).alloc _) (RpSl.new [⟨sa1, pa1, ka1, ca1, qa1, ja1, da1, sa2, pa2, ka2, ca2, qa2, ja2, da2⟩, ⟨sb1, pb1, kb1, cb1, qb1, jb1, db1, sb2, pb2, kb2, cb2, qb2, jb2, db2⟩, ⟨sc1, pc1, kc1, cc1, qc1, jc1, dc1, sc2, pc2, kc2, cc2, qc2, jc2, dc2⟩] w1))) (fun v3 => ?_)
  simp only [Act.put, sA, sB, sC]
  refine fC (by rfl) (by intro w1 hw1 hk1; obtain ⟨g3, -⟩ := hk1; exact HC1_4.out _ _ g3) (by intro; go_simp) ?_
  simp only [Act.put, sA, sB, sC]
  refine fV (by rfl) (by intro w1 hw1 hk1; go_simp) ?_
  simp only [Act.put, sA, sB, sC]
  intro W1 hW1 hk1
  obtain ⟨g3, -⟩ := hk1
  have hb2 := hW1
  replace HBW := Lib.hid (HBW.out.trans hb2)
  have HBW_ := Lib.hid hb2
  clear hW1 g3 hb2
  go_upto_region 3 with fail
  refine line_region 5 [[], [], [], [0, 1, 2], [3]] [.is (.agg #[.bool sa1, .slice pa1 ka1 ca1, .slice qa1 ja1 da1, .bool sa2, .slice pa2 ka2 ca2, .slice qa2 ja2 da2]), .is (.agg #[.bool sb1, .slice pb1 kb1 cb1, .slice qb1 jb1 db1, .bool sb2, .slice pb2 kb2 cb2, .slice qb2 jb2 db2]), .is (.agg #[.bool sc1, .slice pc1 kc1 cc1, .slice qc1 jc1 dc1, .bool sc2, .slice pc2 kc2 cc2, .slice qc2 jc2 dc2]), .is (.int .i64 C1), .is (.int .i64 C1)] rfl rfl (by decide) (by simp only [Steady]) ?_
  simp only [List.take_succ_cons, List.take_zero, List.drop_succ_cons, List.drop_zero]
  refine fV (by rfl) (by intro w1 hw1 hk1; obtain ⟨c0, c1, c2, c3, c4, c5⟩ := boxc6 (hw1.heap (HBW_.out.heap HXa.out)); go_simp) ?_
  simp only [Act.put, sA, sB, sC]
  refine fV (by rfl) (by intro w1 hw1 hk1; obtain ⟨c0, c1, c2, c3, c4, c5⟩ := boxc6 (hw1.heap (HBW_.out.heap HXb.out)); go_simp) ?_
  simp only [Act.put, sA, sB, sC]
  refine fV (by rfl) (by intro w1 hw1 hk1; obtain ⟨c0, c1, c2, c3, c4, c5⟩ := boxc6 (hw1.heap (HBW_.out.heap HXc.out)); go_simp) ?_
  simp only [Act.put, sA, sB, sC]
  refine fC (by rfl) (by intro w1 hw1 hk1; exact HC3_3.out _ _ _ _ (HPa.out.bel (HBW.out.trans hw1)) (HPb.out.bel (HBW.out.trans hw1)) (HPc.out.bel (HBW.out.trans hw1))) (by intro; go_simp) ?_
  simp only [Act.put, sA, sB, sC]
  refine fV (by rfl) (by intro w1 hw1 hk1; go_simp) ?_
  simp only [Act.put, sA, sB, sC]
  intro W2 hW2 hk1
  have hb2 := hW2
  replace HBW := Lib.hid (HBW.out.trans hb2)
  replace HBW_ := Lib.hid (HBW_.out.trans hb2)
  have HBW1_ := Lib.hid hb2
  clear hW2 hb2
  go_upto_region 4 with fail
  refine line_region 2 [[], []] [.has (fun v w => PN 1 w v R1 R2), .has (fun v w => NewBox W2 28 #[.bool false, .slice none 0 0, .slice none 0 0, .bool false, .slice none 0 0, .slice none 0 0] v w)] rfl rfl (by decide) (by simp only [Steady]; exact ⟨fun _ _ _ h hb => h.bel hb, fun _ _ _ h hb => h.bel hb, trivial⟩) ?_
  simp only [List.take_succ_cons, List.take_zero, List.drop_succ_cons, List.drop_zero]
  refine fH (by rfl) (by intro w1 hw1 hk1; exact HC4_0.out _) (by intro; go_simp) (fun v0 => ?_)
  simp only [Act.put, sA, sB, sC]
  refine flow_has (by intro w1 hw1 hk1; refine want (by rfl) (gives_new (c := .pointer (some ⟨w1.heap.size, 0, none⟩)) (w' := w1.alloc (.cells #[.bool false, .slice none 0 0, .slice none 0 0, .bool false, .slice none 0 0, .slice none 0 0] 28)) (by go_simp) ((Bel.refl w1).alloc _) ?_); exact NewBox.new hw1) (fun v1 => ?_)
  simp only [Act.put, sA, sB, sC]
  intro W3 hW3 hk1
  obtain ⟨g1, g0, -⟩ := hk1
  have hnn1 := g1
  clear g1
  obtain ⟨X4_1, rfl, hgeX4_1, hxX4_1⟩ := hnn1
  obtain ⟨sr0_4x1, pr0_4x1, kr0_4x1, cr0_4x1, qr0_4x1, jr0_4x1, dr0_4x1, sr0_4x2, pr0_4x2, kr0_4x2, cr0_4x2, qr0_4x2, jr0_4x2, dr0_4x2, rfl, g0_1, g0_2⟩ := g0.parts
  have hh0 := hxX4_1
  have dd0_0 : W3.cell? ⟨X4_1, 0, none⟩ = some (.bool false) := (heap_cell hh0 0).trans rfl
  have ff0_0 := heap_frozen hh0 0
  have dd0_1 : W3.cell? ⟨X4_1, 1, none⟩ = some (.slice none 0 0) := (heap_cell hh0 1).trans rfl
  have ff0_1 := heap_frozen hh0 1
  have dd0_2 : W3.cell? ⟨X4_1, 2, none⟩ = some (.slice none 0 0) := (heap_cell hh0 2).trans rfl
  have ff0_2 := heap_frozen hh0 2
  have dd0_3 : W3.cell? ⟨X4_1, 3, none⟩ = some (.bool false) := (heap_cell hh0 3).trans rfl
  have ff0_3 := heap_frozen hh0 3
  have dd0_4 : W3.cell? ⟨X4_1, 4, none⟩ = some (.slice none 0 0) := (heap_cell hh0 4).trans rfl
  have ff0_4 := heap_frozen hh0 4
  have dd0_5 : W3.cell? ⟨X4_1, 5, none⟩ = some (.slice none 0 0) := (heap_cell hh0 5).trans rfl
  have ff0_5 := heap_frozen hh0 5
  replace hh0 := Lib.hid hh0
  go_upto_region 5 with fail
  clear dd0_0 ff0_0 dd0_1 ff0_1 dd0_2 ff0_2 dd0_3 ff0_3 dd0_4 ff0_4 dd0_5 ff0_5 hh0
  have ht0 := sto (w := W2) (t := 28) [.bool sr0_4x1, .slice pr0_4x1 kr0_4x1 cr0_4x1, .slice qr0_4x1 jr0_4x1 dr0_4x1, .bool sr0_4x2, .slice pr0_4x2 kr0_4x2 cr0_4x2, .slice qr0_4x2 jr0_4x2 dr0_4x2] (hxX4_1) rfl rfl (hW3) hgeX4_1
  obtain ⟨W4, hW4⟩ : ∃ W', setAll W3 X4_1 0 [.bool sr0_4x1, .slice pr0_4x1 kr0_4x1 cr0_4x1, .slice qr0_4x1 jr0_4x1 dr0_4x1, .bool sr0_4x2, .slice pr0_4x2 kr0_4x2 cr0_4x2, .slice qr0_4x2 jr0_4x2 dr0_4x2] = W' := ⟨_, rfl⟩
  change Code.wp _ _ _ _ (setAll W3 X4_1 0 [.bool sr0_4x1, .slice pr0_4x1 kr0_4x1 cr0_4x1, .slice qr0_4x1 jr0_4x1 dr0_4x1, .bool sr0_4x2, .slice pr0_4x2 kr0_4x2 cr0_4x2, .slice qr0_4x2 jr0_4x2 dr0_4x2])
  rw [hW4]
  have hb2 := ht0.bel
  rw [hW4] at hb2
  have Hg0_4 := g0.lim (ht0.lim)
  rw [hW4] at Hg0_4
  replace Hg0_4 := Lib.hid Hg0_4
  have Hg0_4_1 := g0_1.lim (ht0.lim)
  rw [hW4] at Hg0_4_1
  replace Hg0_4_1 := Lib.hid Hg0_4_1
  have Hg0_4_2 := g0_2.lim (ht0.lim)
  rw [hW4] at Hg0_4_2
  replace Hg0_4_2 := Lib.hid Hg0_4_2
  have HX4_1 := ht0.heap
  rw [hW4] at HX4_1
  replace HX4_1 := Lib.hid HX4_1
  have hgwX4_1 : w.heap.size ≤ X4_1 := Nat.le_trans HBW.out.size hgeX4_1
  replace HBW := Lib.hid (HBW.out.trans hb2)
  replace HBW_ := Lib.hid (HBW_.out.trans hb2)
  replace HBW1_ := Lib.hid (HBW1_.out.trans hb2)
  have HBW2_ := Lib.hid hb2
  clear hW3 g0 hxX4_1 g0_1 g0_2 hgeX4_1 hb2 hW4 ht0
  refine region_flow 59 [[], [], [], [0, 1, 2], [], [3, 4], [5], [6], [6], [6], [6, 7, 8, 9], [6], [6, 10, 11], [6, 12], [13], [14], [14], [14], [14, 15, 16, 17], [14], [14, 19], [14, 18, 20], [14, 21], [22], [23], [23], [23], [23, 24, 25, 26], [23], [23, 28], [23, 27, 29], [23, 30], [31], [32], [32], [32, 33, 34], [32], [32], [32, 36, 37], [32], [32], [32, 39, 40], [32, 35, 38, 41], [32], [32, 42, 43], [32, 44], [45], [46], [46], [46, 47, 48], [46], [46], [46, 50, 51], [46, 49, 52], [46, 53], [46, 54], [55], [56], [56, 57]] [.is (.agg #[.bool sb1, .slice pb1 kb1 cb1, .slice qb1 jb1 db1, .bool sb2, .slice pb2 kb2 cb2, .slice qb2 jb2 db2]), .is (.agg #[.bool sc1, .slice pc1 kc1 cc1, .slice qc1 jc1 dc1, .bool sc2, .slice pc2 kc2 cc2, .slice qc2 jc2 dc2]), .is (.agg #[.bool sa1, .slice pa1 ka1 ca1, .slice qa1 ja1 da1, .bool sa2, .slice pa2 ka2 ca2, .slice qa2 ja2 da2]), .is (.int .i64 C2), .is (.int .i64 C1), .is (.bool true), .is (.bool true), .is (.agg #[.bool sc1, .slice pc1 kc1 cc1, .slice qc1 jc1 dc1, .bool sc2, .slice pc2 kc2 cc2, .slice qc2 jc2 dc2]), .is (.agg #[.bool sa1, .slice pa1 ka1 ca1, .slice qa1 ja1 da1, .bool sa2, .slice pa2 ka2 ca2, .slice qa2 ja2 da2]), .is (.agg #[.bool sb1, .slice pb1 kb1 cb1, .slice qb1 jb1 db1, .bool sb2, .slice pb2 kb2 cb2, .slice qb2 jb2 db2]), .is (.int .i64 C3), .is (.int .i64 C1), .is (.bool true), .is (.bool true), .is (.bool true), .is (.agg #[.bool sb1, .slice pb1 kb1 cb1, .slice qb1 jb1 db1, .bool sb2, .slice pb2 kb2 cb2, .slice qb2 jb2 db2]), .is (.agg #[.bool sa1, .slice pa1 ka1 ca1, .slice qa1 ja1 da1, .bool sa2, .slice pa2 ka2 ca2, .slice qa2 ja2 da2]), .is (.agg #[.bool sc1, .slice pc1 kc1 cc1, .slice qc1 jc1 dc1, .bool sc2, .slice pc2 kc2 cc2, .slice qc2 jc2 dc2]), .is (.int .i64 C4), .is (.int .i64 C1), .is (.int .i64 (-C1)), .is (.bool true), .is (.bool true), .is (.bool true), .is (.agg #[.bool sa1, .slice pa1 ka1 ca1, .slice qa1 ja1 da1, .bool sa2, .slice pa2 ka2 ca2, .slice qa2 ja2 da2]), .is (.agg #[.bool sc1, .slice pc1 kc1 cc1, .slice qc1 jc1 dc1, .bool sc2, .slice pc2 kc2 cc2, .slice qc2 jc2 dc2]), .is (.agg #[.bool sb1, .slice pb1 kb1 cb1, .slice qb1 jb1 db1, .bool sb2, .slice pb2 kb2 cb2, .slice qb2 jb2 db2]), .is (.int .i64 C5), .is (.int .i64 C1), .is (.int .i64 (-C1)), .is (.bool true), .is (.bool true), .is (.bool true), .is (.agg #[.bool sa1, .slice pa1 ka1 ca1, .slice qa1 ja1 da1, .bool sa2, .slice pa2 ka2 ca2, .slice qa2 ja2 da2]), .is (.agg #[.bool sr0_4x1, .slice pr0_4x1 kr0_4x1 cr0_4x1, .slice qr0_4x1 jr0_4x1 dr0_4x1, .bool sr0_4x2, .slice pr0_4x2 kr0_4x2 cr0_4x2, .slice qr0_4x2 jr0_4x2 dr0_4x2]), .has (fun v w => PN 8 w v R3 R4), .is (.agg #[.bool sb1, .slice pb1 kb1 cb1, .slice qb1 jb1 db1, .bool sb2, .slice pb2 kb2 cb2, .slice qb2 jb2 db2]), .is (.agg #[.bool sr0_4x1, .slice pr0_4x1 kr0_4x1 cr0_4x1, .slice qr0_4x1 jr0_4x1 dr0_4x1, .bool sr0_4x2, .slice pr0_4x2 kr0_4x2 cr0_4x2, .slice qr0_4x2 jr0_4x2 dr0_4x2]), .has (fun v w => PN 8 w v R5 R6), .is (.agg #[.bool sc1, .slice pc1 kc1 cc1, .slice qc1 jc1 dc1, .bool sc2, .slice pc2 kc2 cc2, .slice qc2 jc2 dc2]), .is (.agg #[.bool sr0_4x1, .slice pr0_4x1 kr0_4x1 cr0_4x1, .slice qr0_4x1 jr0_4x1 dr0_4x1, .bool sr0_4x2, .slice pr0_4x2 kr0_4x2 cr0_4x2, .slice qr0_4x2 jr0_4x2 dr0_4x2]), .has (fun v w => PN 8 w v R7 R8), .is (.int .i64 C6), .is (.int .i64 C1), .is (.bool true), .is (.bool true), .is (.bool true), .is (.agg #[.bool sa1, .slice pa1 ka1 ca1, .slice qa1 ja1 da1, .bool sa2, .slice pa2 ka2 ca2, .slice qa2 ja2 da2]), .is (.agg #[.bool sb1, .slice pb1 kb1 cb1, .slice qb1 jb1 db1, .bool sb2, .slice pb2 kb2 cb2, .slice qb2 jb2 db2]), .has (fun v w => RN 53 w v R9), .is (.agg #[.bool sb1, .slice pb1 kb1 cb1, .slice qb1 jb1 db1, .bool sb2, .slice pb2 kb2 cb2, .slice qb2 jb2 db2]), .is (.agg #[.bool sa1, .slice pa1 ka1 ca1, .slice qa1 ja1 da1, .bool sa2, .slice pa2 ka2 ca2, .slice qa2 ja2 da2]), .has (fun v w => RN 53 w v R10), .is (.int .i64 C7), .is (.bool true), .is (.bool true), .is (.bool true), .is (.bool true), .is (.bool true)] (by kernel_rfl) (by kernel_rfl) rfl (by simp only [Steady]; exact ⟨fun _ _ _ h hb => h.bel hb, fun _ _ _ h hb => h.bel hb, fun _ _ _ h hb => h.bel hb, fun _ _ _ h hb => h.bel hb, fun _ _ _ h hb => h.bel hb, trivial⟩) ?_
  simp only [List.take_succ_cons, List.take_zero, List.drop_succ_cons, List.drop_zero]
  refine fV (by rfl) (by intro w1 hw1 hk1; obtain ⟨c0, c1, c2, c3, c4, c5⟩ := boxc6 (hw1.heap (HBW_.out.heap HXb.out)); go_simp) ?_
  simp only [Act.put, sA, sB, sC]
  refine fV (by rfl) (by intro w1 hw1 hk1; obtain ⟨c0, c1, c2, c3, c4, c5⟩ := boxc6 (hw1.heap (HBW_.out.heap HXc.out)); go_simp) ?_
  simp only [Act.put, sA, sB, sC]
  refine fV (by rfl) (by intro w1 hw1 hk1; obtain ⟨c0, c1, c2, c3, c4, c5⟩ := boxc6 (hw1.heap (HBW_.out.heap HXa.out)); go_simp) ?_
  simp only [Act.put, sA, sB, sC]
  refine fC (by rfl) (by intro w1 hw1 hk1; exact HC5_3.out _ _ _ _ (HPb.out.bel (HBW.out.trans hw1)) (HPc.out.bel (HBW.out.trans hw1)) (HPa.out.bel (HBW.out.trans hw1))) (by intro; go_simp) ?_
  simp only [Act.put, sA, sB, sC]
  refine fV (by rfl) (by intro w1 hw1 hk1; go_simp) ?_
  simp only [Act.put, sA, sB, sC]
  refine flow_is (by intro w1 hw1 hk1; refine want (by rfl) (gives_val ?_); have q := HL5_5.out; go_simp; (first | done | simp [q] | omega)) ?_
  simp only [Act.put, sA, sB, sC]
  refine fV (by rfl) (by intro w1 hw1 hk1; go_simp) ?_
  simp only [Act.put, sA, sB, sC]
  refine fV (by rfl) (by intro w1 hw1 hk1; obtain ⟨c0, c1, c2, c3, c4, c5⟩ := boxc6 (hw1.heap (HBW_.out.heap HXc.out)); go_simp) ?_
  simp only [Act.put, sA, sB, sC]
  refine fV (by rfl) (by intro w1 hw1 hk1; obtain ⟨c0, c1, c2, c3, c4, c5⟩ := boxc6 (hw1.heap (HBW_.out.heap HXa.out)); go_simp) ?_
  simp only [Act.put, sA, sB, sC]
  refine fV (by rfl) (by intro w1 hw1 hk1; obtain ⟨c0, c1, c2, c3, c4, c5⟩ := boxc6 (hw1.heap (HBW_.out.heap HXb.out)); go_simp) ?_
  simp only [Act.put, sA, sB, sC]
  refine fC (by rfl) (by intro w1 hw1 hk1; exact HC5_10.out _ _ _ _ (HPc.out.bel (HBW.out.trans hw1)) (HPa.out.bel (HBW.out.trans hw1)) (HPb.out.bel (HBW.out.trans hw1))) (by intro; go_simp) ?_
  simp only [Act.put, sA, sB, sC]
  refine fV (by rfl) (by intro w1 hw1 hk1; go_simp) ?_
  simp only [Act.put, sA, sB, sC]
  refine flow_is (by intro w1 hw1 hk1; refine want (by rfl) (gives_val ?_); have q := HL5_12.out; go_simp; (first | done | simp [q] | omega)) ?_
  simp only [Act.put, sA, sB, sC]
  refine fV (by rfl) (by intro w1 hw1 hk1; go_simp) ?_
  simp only [Act.put, sA, sB, sC]
  refine fV (by rfl) (by intro w1 hw1 hk1; go_simp) ?_
  simp only [Act.put, sA, sB, sC]
  refine fV (by rfl) (by intro w1 hw1 hk1; obtain ⟨c0, c1, c2, c3, c4, c5⟩ := boxc6 (hw1.heap (HBW_.out.heap HXb.out)); go_simp) ?_
  simp only [Act.put, sA, sB, sC]
  refine fV (by rfl) (by intro w1 hw1 hk1; obtain ⟨c0, c1, c2, c3, c4, c5⟩ := boxc6 (hw1.heap (HBW_.out.heap HXa.out)); go_simp) ?_
  simp only [Act.put, sA, sB, sC]
  refine fV (by rfl) (by intro w1 hw1 hk1; obtain ⟨c0, c1, c2, c3, c4, c5⟩ := boxc6 (hw1.heap (HBW_.out.heap HXc.out)); go_simp) ?_
  simp only [Act.put, sA, sB, sC]
  refine fC (by rfl) (by intro w1 hw1 hk1; exact HC5_18.out _ _ _ _ (HPb.out.bel (HBW.out.trans hw1)) (HPa.out.bel (HBW.out.trans hw1)) (HPc.out.bel (HBW.out.trans hw1))) (by intro; go_simp) ?_
  simp only [Act.put, sA, sB, sC]
  refine fV (by rfl) (by intro w1 hw1 hk1; go_simp) ?_
  simp only [Act.put, sA, sB, sC]
  refine flow_is (by intro w1 hw1 hk1; refine want (by rfl) (gives_val ?_); have q := HBDC1.out; go_simp; (first | done | (rw [IntWalk.i64_in _ (by omega)]))) ?_
  simp only [Act.put, sA, sB, sC]
  refine flow_is (by intro w1 hw1 hk1; refine want (by rfl) (gives_val ?_); have q := HL5_21.out; go_simp; (first | done | simp [q] | omega)) ?_
  simp only [Act.put, sA, sB, sC]
  refine fV (by rfl) (by intro w1 hw1 hk1; go_simp) ?_
  simp only [Act.put, sA, sB, sC]
  refine fV (by rfl) (by intro w1 hw1 hk1; go_simp) ?_
  simp only [Act.put, sA, sB, sC]
  refine fV (by rfl) (by intro w1 hw1 hk1; obtain ⟨c0, c1, c2, c3, c4, c5⟩ := boxc6 (hw1.heap (HBW_.out.heap HXa.out)); go_simp) ?_
  simp only [Act.put, sA, sB, sC]
  refine fV (by rfl) (by intro w1 hw1 hk1; obtain ⟨c0, c1, c2, c3, c4, c5⟩ := boxc6 (hw1.heap (HBW_.out.heap HXc.out)); go_simp) ?_
  simp only [Act.put, sA, sB, sC]
  refine fV (by rfl) (by intro w1 hw1 hk1; obtain ⟨c0, c1, c2, c3, c4, c5⟩ := boxc6 (hw1.heap (HBW_.out.heap HXb.out)); go_simp) ?_
  simp only [Act.put, sA, sB, sC]
  refine fC (by rfl) (by intro w1 hw1 hk1; exact HC5_27.out _ _ _ _ (HPa.out.bel (HBW.out.trans hw1)) (HPc.out.bel (HBW.out.trans hw1)) (HPb.out.bel (HBW.out.trans hw1))) (by intro; go_simp) ?_
  simp only [Act.put, sA, sB, sC]
  refine fV (by rfl) (by intro w1 hw1 hk1; go_simp) ?_
  simp only [Act.put, sA, sB, sC]
  refine flow_is (by intro w1 hw1 hk1; refine want (by rfl) (gives_val ?_); have q := HBDC1.out; go_simp; (first | done | (rw [IntWalk.i64_in _ (by omega)]))) ?_
  simp only [Act.put, sA, sB, sC]
  refine flow_is (by intro w1 hw1 hk1; refine want (by rfl) (gives_val ?_); have q := HL5_30.out; go_simp; (first | done | simp [q] | omega)) ?_
  simp only [Act.put, sA, sB, sC]
  refine fV (by rfl) (by intro w1 hw1 hk1; go_simp) ?_
  simp only [Act.put, sA, sB, sC]
  refine fV (by rfl) (by intro w1 hw1 hk1; go_simp) ?_
  simp only [Act.put, sA, sB, sC]
  refine fV (by rfl) (by intro w1 hw1 hk1; obtain ⟨c0, c1, c2, c3, c4, c5⟩ := boxc6 (hw1.heap (HBW_.out.heap HXa.out)); go_simp) ?_
  simp only [Act.put, sA, sB, sC]
  refine fV (by rfl) (by intro w1 hw1 hk1; obtain ⟨c0, c1, c2, c3, c4, c5⟩ := boxc6 (hw1.heap HX4_1.out); go_simp) ?_
  simp only [Act.put, sA, sB, sC]
  refine fH (by rfl) (by intro w1 hw1 hk1; exact HC5_35.out _ _ _ (HPa.out.bel (HBW.out.trans hw1)) (Hg0_4.out.bel hw1)) (by intro; go_simp) (fun v35 => ?_)
  simp only [Act.put, sA, sB, sC]
  refine fV (by rfl) (by intro w1 hw1 hk1; obtain ⟨c0, c1, c2, c3, c4, c5⟩ := boxc6 (hw1.heap (HBW_.out.heap HXb.out)); go_simp) ?_
  simp only [Act.put, sA, sB, sC]
  refine fV (by rfl) (by intro w1 hw1 hk1; obtain ⟨c0, c1, c2, c3, c4, c5⟩ := boxc6 (hw1.heap HX4_1.out); go_simp) ?_
  simp only [Act.put, sA, sB, sC]
  refine fH (by rfl) (by intro w1 hw1 hk1; exact HC5_38.out _ _ _ (HPb.out.bel (HBW.out.trans hw1)) (Hg0_4.out.bel hw1)) (by intro; go_simp) (fun v38 => ?_)
  simp only [Act.put, sA, sB, sC]
  refine fV (by rfl) (by intro w1 hw1 hk1; obtain ⟨c0, c1, c2, c3, c4, c5⟩ := boxc6 (hw1.heap (HBW_.out.heap HXc.out)); go_simp) ?_
  simp only [Act.put, sA, sB, sC]
  refine fV (by rfl) (by intro w1 hw1 hk1; obtain ⟨c0, c1, c2, c3, c4, c5⟩ := boxc6 (hw1.heap HX4_1.out); go_simp) ?_
  simp only [Act.put, sA, sB, sC]
  refine fH (by rfl) (by intro w1 hw1 hk1; exact HC5_41.out _ _ _ (HPc.out.bel (HBW.out.trans hw1)) (Hg0_4.out.bel hw1)) (by intro; go_simp) (fun v41 => ?_)
  simp only [Act.put, sA, sB, sC]
  refine fC (by rfl) (by intro w1 hw1 hk1; obtain ⟨g41, g38, g35, -⟩ := hk1; exact HC5_42.out _ _ _ _ g35 g38 g41) (by intro; go_simp) ?_
  simp only [Act.put, sA, sB, sC]
  refine fV (by rfl) (by intro w1 hw1 hk1; go_simp) ?_
  simp only [Act.put, sA, sB, sC]
  refine flow_is (by intro w1 hw1 hk1; refine want (by rfl) (gives_val ?_); have q := HL5_44.out; go_simp; (first | done | simp [q] | omega)) ?_
  simp only [Act.put, sA, sB, sC]
  refine fV (by rfl) (by intro w1 hw1 hk1; go_simp) ?_
  simp only [Act.put, sA, sB, sC]
  refine fV (by rfl) (by intro w1 hw1 hk1; go_simp) ?_
  simp only [Act.put, sA, sB, sC]
  refine fV (by rfl) (by intro w1 hw1 hk1; obtain ⟨c0, c1, c2, c3, c4, c5⟩ := boxc6 (hw1.heap (HBW_.out.heap HXa.out)); go_simp) ?_
  simp only [Act.put, sA, sB, sC]
  refine fV (by rfl) (by intro w1 hw1 hk1; obtain ⟨c0, c1, c2, c3, c4, c5⟩ := boxc6 (hw1.heap (HBW_.out.heap HXb.out)); go_simp) ?_
  simp only [Act.put, sA, sB, sC]
  refine fH (by rfl) (by intro w1 hw1 hk1; exact HC5_49.out _ _ _ (HPa.out.bel (HBW.out.trans hw1)) (HPb.out.bel (HBW.out.trans hw1))) (by intro; go_simp) (fun v49 => ?_)
  simp only [Act.put, sA, sB, sC]
  refine fV (by rfl) (by intro w1 hw1 hk1; obtain ⟨c0, c1, c2, c3, c4, c5⟩ := boxc6 (hw1.heap (HBW_.out.heap HXb.out)); go_simp) ?_
  simp only [Act.put, sA, sB, sC]
  refine fV (by rfl) (by intro w1 hw1 hk1; obtain ⟨c0, c1, c2, c3, c4, c5⟩ := boxc6 (hw1.heap (HBW_.out.heap HXa.out)); go_simp) ?_
  simp only [Act.put, sA, sB, sC]
  refine fH (by rfl) (by intro w1 hw1 hk1; exact HC5_52.out _ _ _ (HPb.out.bel (HBW.out.trans hw1)) (HPa.out.bel (HBW.out.trans hw1))) (by intro; go_simp) (fun v52 => ?_)
  simp only [Act.put, sA, sB, sC]
  refine fC (by rfl) (by intro w1 hw1 hk1; obtain ⟨g52, g49, -, -, -, -⟩ := hk1; exact HC5_53.out _ _ _ g49 g52) (by intro; go_simp) ?_
  simp only [Act.put, sA, sB, sC]
  refine flow_is (by intro w1 hw1 hk1; refine want (by rfl) (gives_val ?_); have q := HL5_54.out; go_simp; (first | done | simp [q] | omega)) ?_
  simp only [Act.put, sA, sB, sC]
  refine fV (by rfl) (by intro w1 hw1 hk1; go_simp) ?_
  simp only [Act.put, sA, sB, sC]
  refine fV (by rfl) (by intro w1 hw1 hk1; go_simp) ?_
  simp only [Act.put, sA, sB, sC]
  refine fC (by rfl) (by intro w1 hw1 hk1; exact HC5_57.out _) (by intro; go_simp) ?_
  simp only [Act.put, sA, sB, sC]
  refine fV (by rfl) (by intro w1 hw1 hk1; go_simp) ?_
  simp only [Act.put, sA, sB, sC]
  intro W5 hW5 hk1
  obtain ⟨g52, g49, g41, g38, g35, -⟩ := hk1
  have hfb := HBW.out.trans hW5
  clear hW5 g35 g38 g41 g49 g52
  go_wp2
  go_ret
  exact ⟨_, rfl, hfb, rfl⟩
set_option maxHeartbeats 4000000 in
set_option maxRecDepth 100000 in
theorem ptTurns_wakes {w : World} (a : Rp) (b : Rp) (c : Rp) (HFAIR : [a, b, c].all (Rp.ok 6) = false) : Calls Tryz.prog 5 #[.agg a.row.toArray, .agg b.row.toArray, .agg c.row.toArray] w (Makes w fun v _ => v = .bool true) := by
  obtain ⟨sa1, pa1, ka1, ca1, qa1, ja1, da1, sa2, pa2, ka2, ca2, qa2, ja2, da2⟩ := a
  obtain ⟨sb1, pb1, kb1, cb1, qb1, jb1, db1, sb2, pb2, kb2, cb2, qb2, jb2, db2⟩ := b
  obtain ⟨sc1, pc1, kc1, cc1, qc1, jc1, dc1, sc2, pc2, kc2, cc2, qc2, jc2, dc2⟩ := c
  change Calls _ _ #[.agg #[.bool sa1, .slice pa1 ka1 ca1, .slice qa1 ja1 da1, .bool sa2, .slice pa2 ka2 ca2, .slice qa2 ja2 da2], .agg #[.bool sb1, .slice pb1 kb1 cb1, .slice qb1 jb1 db1, .bool sb2, .slice pb2 kb2 cb2, .slice qb2 jb2 db2], .agg #[.bool sc1, .slice pc1 kc1 cc1, .slice qc1 jc1 dc1, .bool sc2, .slice pc2 kc2 cc2, .slice qc2 jc2 dc2]] _ _
  have HC1_4 : Hid (∀ X u0, RpSl [⟨sa1, pa1, ka1, ca1, qa1, ja1, da1, sa2, pa2, ka2, ca2, qa2, ja2, da2⟩, ⟨sb1, pb1, kb1, cb1, qb1, jb1, db1, sb2, pb2, kb2, cb2, qb2, jb2, db2⟩, ⟨sc1, pc1, kc1, cc1, qc1, jc1, dc1, sc2, pc2, kc2, cc2, qc2, jc2, dc2⟩] u0 X → Calls Tryz.prog 12 #[u0] X (Makes X fun v _ => v = .bool false)) := fun X u0 h0 => au_fair h0 (by simp) HFAIR
  have HC2_0 : Hid (∀ X, Calls Tryz.prog 14 #[] X (Makes X fun v _ => v = .bool true)) := fun X => wakes06_any X
  go_enter Tryz.func5, Tryz.ntmps5
  go_upto_region 1 with fail
  obtain ⟨hXa, hXb, hXc, hbw⟩ := boxes3 w (.cells #[.bool sa1, .slice pa1 ka1 ca1, .slice qa1 ja1 da1, .bool sa2, .slice pa2 ka2 ca2, .slice qa2 ja2 da2] 28) (.cells #[.bool sb1, .slice pb1 kb1 cb1, .slice qb1 jb1 db1, .bool sb2, .slice pb2 kb2 cb2, .slice qb2 jb2 db2] 28) (.cells #[.bool sc1, .slice pc1 kc1 cc1, .slice qc1 jc1 dc1, .bool sc2, .slice pc2 kc2 cc2, .slice qc2 jc2 dc2] 28)
  obtain ⟨W, hW⟩ : ∃ W, ((w.alloc (.cells #[.bool sa1, .slice pa1 ka1 ca1, .slice qa1 ja1 da1, .bool sa2, .slice pa2 ka2 ca2, .slice qa2 ja2 da2] 28)).alloc (.cells #[.bool sb1, .slice pb1 kb1 cb1, .slice qb1 jb1 db1, .bool sb2, .slice pb2 kb2 cb2, .slice qb2 jb2 db2] 28)).alloc (.cells #[.bool sc1, .slice pc1 kc1 cc1, .slice qc1 jc1 dc1, .bool sc2, .slice pc2 kc2 cc2, .slice qc2 jc2 dc2] 28) = W := ⟨_, rfl⟩
  rw [hW] at hXa hXb hXc hbw ⊢
  obtain ⟨Xa, eXa⟩ : ∃ X, w.heap.size = X := ⟨_, rfl⟩
  obtain ⟨Xb, eXb⟩ : ∃ X, Xa + 1 = X := ⟨_, rfl⟩
  obtain ⟨Xc, eXc⟩ : ∃ X, Xb + 1 = X := ⟨_, rfl⟩
  rw [eXa, eXb, eXc]
  rw [eXa] at hXa hXb hXc
  rw [eXb] at hXb hXc
  rw [eXc] at hXc
  have HXa := Lib.hid hXa
  have HXb := Lib.hid hXb
  have HXc := Lib.hid hXc
  have HBW := Lib.hid hbw
  have HGEXa : Hid (w.heap.size ≤ Xa) := by unfold Hid; omega
  have HGEXb : Hid (w.heap.size ≤ Xb) := by unfold Hid; omega
  have HGEXc : Hid (w.heap.size ≤ Xc) := by unfold Hid; omega
  have HLT : Hid (Xa < Xb ∧ Xb < Xc) := by unfold Hid; omega
  clear hW hbw hXa hXb hXc eXa eXb eXc
  refine line_region 6 [[], [], [], [0, 1, 2], [3], [4]] [.is (.agg #[.bool sa1, .slice pa1 ka1 ca1, .slice qa1 ja1 da1, .bool sa2, .slice pa2 ka2 ca2, .slice qa2 ja2 da2]), .is (.agg #[.bool sb1, .slice pb1 kb1 cb1, .slice qb1 jb1 db1, .bool sb2, .slice pb2 kb2 cb2, .slice qb2 jb2 db2]), .is (.agg #[.bool sc1, .slice pc1 kc1 cc1, .slice qc1 jc1 dc1, .bool sc2, .slice pc2 kc2 cc2, .slice qc2 jc2 dc2]), .has (fun v w => RpSl [⟨sa1, pa1, ka1, ca1, qa1, ja1, da1, sa2, pa2, ka2, ca2, qa2, ja2, da2⟩, ⟨sb1, pb1, kb1, cb1, qb1, jb1, db1, sb2, pb2, kb2, cb2, qb2, jb2, db2⟩, ⟨sc1, pc1, kc1, cc1, qc1, jc1, dc1, sc2, pc2, kc2, cc2, qc2, jc2, dc2⟩] v w), .is (.bool false), .is (.bool true)] rfl rfl (by decide) (by simp only [Steady]; exact ⟨fun _ _ _ h hb => h.bel hb, trivial⟩) ?_
  simp only [List.take_succ_cons, List.take_zero, List.drop_succ_cons, List.drop_zero]
  refine fV (by rfl) (by intro w1 hw1 hk1; obtain ⟨c0, c1, c2, c3, c4, c5⟩ := boxc6 (hw1.heap HXa.out); go_simp) ?_
  simp only [Act.put, sA, sB, sC]
  refine fV (by rfl) (by intro w1 hw1 hk1; obtain ⟨c0, c1, c2, c3, c4, c5⟩ := boxc6 (hw1.heap HXb.out); go_simp) ?_
  simp only [Act.put, sA, sB, sC]
  refine fV (by rfl) (by intro w1 hw1 hk1; obtain ⟨c0, c1, c2, c3, c4, c5⟩ := boxc6 (hw1.heap HXc.out); go_simp) ?_
  simp only [Act.put, sA, sB, sC]
  refine flow_has (by intro w1 hw1 hk1; refine want (by rfl) (gives_new (c := .slice (some ⟨w1.heap.size, 0, none⟩) 3 3) (w' := w1.alloc (.cells #[.bool sa1, .slice pa1 ka1 ca1, .slice qa1 ja1 da1, .bool sa2, .slice pa2 ka2 ca2, .slice qa2 ja2 da2, .bool sb1, .slice pb1 kb1 cb1, .slice qb1 jb1 db1, .bool sb2, .slice pb2 kb2 cb2, .slice qb2 jb2 db2, .bool sc1, .slice pc1 kc1 cc1, .slice qc1 jc1 dc1, .bool sc2, .slice pc2 kc2 cc2, .slice qc2 jc2 dc2] 28)) (by go_simp) ((Bel.refl w1).alloc _) (RpSl.new [⟨sa1, pa1, ka1, ca1, qa1, ja1, da1, sa2, pa2, ka2, ca2, qa2, ja2, da2⟩, ⟨sb1, pb1, kb1, cb1, qb1, jb1, db1, sb2, pb2, kb2, cb2, qb2, jb2, db2⟩, ⟨sc1, pc1, kc1, cc1, qc1, jc1, dc1, sc2, pc2, kc2, cc2, qc2, jc2, dc2⟩] w1))) (fun v3 => ?_)
  simp only [Act.put, sA, sB, sC]
  refine fC (by rfl) (by intro w1 hw1 hk1; obtain ⟨g3, -⟩ := hk1; exact HC1_4.out _ _ g3) (by intro; go_simp) ?_
  simp only [Act.put, sA, sB, sC]
  refine fV (by rfl) (by intro w1 hw1 hk1; go_simp) ?_
  simp only [Act.put, sA, sB, sC]
  intro W1 hW1 hk1
  obtain ⟨g3, -⟩ := hk1
  have hb2 := hW1
  replace HBW := Lib.hid (HBW.out.trans hb2)
  have HBW_ := Lib.hid hb2
  clear hW1 g3 hb2
  go_upto_region 2 with fail
  refine line_region 1 [[]] [.is (.bool true)] rfl rfl (by decide) (by simp only [Steady]) ?_
  simp only [List.take_succ_cons, List.take_zero, List.drop_succ_cons, List.drop_zero]
  refine fC (by rfl) (by intro w1 hw1 hk1; exact HC2_0.out _) (by intro; go_simp) ?_
  simp only [Act.put, sA, sB, sC]
  intro W2 hW2 hk1
  have hfb := HBW.out.trans hW2
  clear hW2
  go_wp2
  go_ret
  exact ⟨_, rfl, hfb, rfl⟩
end Go.Proofs.YtafmfnpjhhaikaaGreatDoor
