/-
  From the walks to the rows: a law that returns true and leaves what was there as it was meets its specification; how a row of parts of a path that came in is read; the tables that lie.
-/
import Derived.Test.YtefajplbgmikdaaDoorCmj10
import Derived.Test.YtefajplbgmikdaaDoorCards
import Derived.Test.YtefajplbgmikdaaDoorTie
import Derived.ProofKit
import Derived.LaidMore
import Derived.OpenShut
import Derived.Stop.Joined
import Derived.LaidSub
import Derived.SevenTiedAt
import Derived.Lib.LaidTab
import Derived.Deep.Slices
import Derived.Deep.Strs
import Derived.Test.YtefajplbgmikdaaDoorCmj12
import Derived.Lib.SmallJoins
namespace Go.Proofs.YtefajplbgmikdaaDoor
open Go.ChangeShapes Go.WideShapes Go.ChangeAt Go.WideMaps Go.WideElems Go.RowKit Go.Deep

theorem trodAll_below {H : Type} {enc : TypeId × Value → H} {P : Program} (hl : laidOutB P = true) {W W' : World} (hb : Below W.heap.size W W') :
    ∀ (ts : List TypeId) (vs : List Value) (ds : List (DataW H)) (ps : List MemPlace), (∀ t ∈ ts, P.readableRec t = true ∧ t < P.types.size) → DataW.TrodAll enc P W 0 (fun _ => true) true ts vs ds ps → (∀ x ∈ ps, x.block < W.heap.size) →
      DataW.TrodAll enc P W' 0 (fun b => decide (b < W.heap.size)) true ts vs ds ps
  | [], [], [], ps, _, h, _ => h
  | t :: ts, v :: vs, d :: ds, ps, hr, h, hlt => by
    obtain ⟨p, q, h1, h2, rfl⟩ := h
    exact ⟨p, q, Below.trod hl (hr t (by simp)).1 (hr t (by simp)).2 h1 hb (fun x hx => hlt x (List.mem_append.2 (.inl hx))), trodAll_below hl hb ts vs ds q (fun t ht => hr t (by simp [ht])) h2 (fun x hx => hlt x (List.mem_append.2 (.inr hx))), rfl⟩
theorem law_post {H : Type} {enc : TypeId × Value → H} {P : Program} {f : Func} {s : ChangeSpec} {W W' : World} {args : Array Value} {ds : List (DataW H)} {before : List MemPlace} (hl : laidOutB P = true) (hv : s.vars = [])
    (hW : DataW.Whole enc P f.params.toList s.vars false W args.toList ds [] before) (hr : ∀ t ∈ f.params.toList, P.readableRec t = true ∧ t < P.types.size) (hres : f.resultTypes = #[4]) (h4 : P.underlying 4 = some .bool)
    (hs : (s.fn H (ds ++ [])) = { results := [.lit (.bool true)], args := ds }) (hb : Below W.heap.size W W') : s.post enc P f false true false false W args (.bool true) W' := by
  have hW' := hW
  obtain ⟨p, q, hA, hV, rfl, hfz, hnd⟩ := hW'
  rw [hv] at hV
  obtain ⟨_, rfl⟩ := trodVars_none hV
  refine ⟨ds, [], _, [], p, [], hW, ?_, ?_, ?_, hb.frame _, fun h => by cases h⟩
  · rw [hs, hres]
    exact trodAll_mk1 (shut_bool h4 _)
  · rw [hs]
    exact trodAll_below hl hb _ _ _ _ hr hA (fun x hx => by have := hW.lt x (by simpa using hx); exact this)
  · rw [hs, hv]
    rfl
theorem own : ownKnob Tryd.prog.godebug = none := by kernel_rfl
theorem laidOut : laidOutB Tryd.prog = true := by kernel_rfl
theorem cellsInt64 : Tryd.prog.cellsOf 2 = 1 := by kernel_rfl
theorem cellsSeg : Tryd.prog.cellsOf 36 = 8 := by kernel_rfl
theorem cells6 : Tryd.prog.cellsOf 34 = 6 := by kernel_rfl
theorem cellsInt : Tryd.prog.cellsOf 3 = 1 := by kernel_rfl
theorem one_of {H : Type} {enc : TypeId × Value → H} {W : World} {b : Nat} {sp : Nat → Bool} {held : Bool} {n : Nat} {t : TypeId} {v : Value} {k : IntKind} {y : DataW H × List MemPlace} (ht : Tryd.prog.underlying t = some (.int k)) (h : DataW.trod enc Tryd.prog W b sp held n t [v] = some y) : ∃ z, v = .int k z := by
  obtain ⟨z, hz, _⟩ := DataW.trod_int ht h
  exact ⟨z, by simpa using hz⟩
set_option maxRecDepth 100000 in
/-- A part of a path that came in: its cells are numbers. -/
theorem seg_open {H : Type} {enc : TypeId × Value → H} {W : World} {b : Nat} {sp : Nat → Bool} {held : Bool} {n : Nat} {cs : List Value} {x : DataW H × List MemPlace} (h : DataW.trod enc Tryd.prog W b sp held n 36 cs = some x) :
    ∃ s : Sg, s.v.length = 6 ∧ cs = sgC s := by
  obtain ⟨y0, y1, y2, m, _, hl, h0, h1, h2⟩ := trod_struct3 Tryd.underlying36 h
  rw [cellsSeg] at hl
  match cs, hl with
  | [c0, c1, c2, c3, c4, c5, c6, c7], _ =>
    dsimp only at h0 h1 h2
    rw [cellsInt] at h0
    rw [cells6] at h1
    rw [cellsInt64] at h2
    simp only [List.drop_zero, List.drop_succ_cons, List.take_succ_cons, List.take_zero] at h0 h1 h2
    obtain ⟨k, rfl⟩ := one_of Tryd.underlying3 h0
    obtain ⟨w, rfl⟩ := one_of Tryd.underlying2 h2
    obtain ⟨xs, m2, _, _, _, hxl, hx⟩ := DataW.trod_array Tryd.underlying34 h1
    have hx' : ∀ i, i < 6 → ∃ y, DataW.trod enc Tryd.prog W b sp held m2 2 (([c1, c2, c3, c4, c5, c6].drop i).take 1) = some y := fun i hi => by
      have := hx i hi
      rw [cellsInt64, Nat.mul_one] at this
      rw [this]
      exact ⟨_, List.getElem?_eq_getElem (by omega)⟩
    obtain ⟨_, g0⟩ := hx' 0 (by omega)
    obtain ⟨_, g1⟩ := hx' 1 (by omega)
    obtain ⟨_, g2⟩ := hx' 2 (by omega)
    obtain ⟨_, g3⟩ := hx' 3 (by omega)
    obtain ⟨_, g4⟩ := hx' 4 (by omega)
    obtain ⟨_, g5⟩ := hx' 5 (by omega)
    simp only [List.drop_zero, List.drop_succ_cons, List.take_succ_cons, List.take_zero] at g0 g1 g2 g3 g4 g5
    obtain ⟨z0, rfl⟩ := one_of Tryd.underlying2 g0
    obtain ⟨z1, rfl⟩ := one_of Tryd.underlying2 g1
    obtain ⟨z2, rfl⟩ := one_of Tryd.underlying2 g2
    obtain ⟨z3, rfl⟩ := one_of Tryd.underlying2 g3
    obtain ⟨z4, rfl⟩ := one_of Tryd.underlying2 g4
    obtain ⟨z5, rfl⟩ := one_of Tryd.underlying2 g5
    exact ⟨⟨k, [z0, z1, z2, z3, z4, z5], w⟩, rfl, rfl⟩
theorem list_of {p : Nat → Sg → Prop} : ∀ n, (∀ i, i < n → ∃ s, p i s) → ∃ l : List Sg, l.length = n ∧ ∀ (i : Nat) s, l[i]? = some s → p i s
  | 0, _ => ⟨[], rfl, by simp⟩
  | n + 1, h => by
    obtain ⟨l, hl, hp⟩ := list_of n (fun i hi => h i (by omega))
    obtain ⟨s, hs⟩ := h n (by omega)
    refine ⟨l ++ [s], by simp [hl], fun i t ht => ?_⟩
    by_cases hi : i < n
    · rw [List.getElem?_append_left (by omega)] at ht
      exact hp i t ht
    · have hin : i = n := by
        have := (List.getElem?_eq_some_iff.1 ht).1
        simp at this
        omega
      subst hin
      rw [List.getElem?_append_right (by omega), hl] at ht
      simp at ht
      subst ht
      exact hs
/-- A row of parts that came in. -/
theorem opened_segs {H : Type} {enc : TypeId × Value → H} {W : World} {a0 : Option Addr} {len cap : Nat} {d0 : DataW H} {p : List MemPlace}
    (h0 : DataW.Trod enc Tryd.prog W 0 (fun _ => true) true 22 (.slice a0 len cap) d0 p) : ∃ l : List Sg, l.length = len ∧ (∀ s ∈ l, s.v.length = 6) ∧ SegRow W W.heap.size (.slice a0 len cap) l := by
  obtain ⟨fuel, hf⟩ := h0
  rcases open_slice Tryd.underlying22 hf with ⟨hcs, hx⟩ | ⟨a, len', cap', m, n, D, Pl, hcs, _, hl, hm, hmm, hx, hall⟩
  · simp [Value.cells] at hcs
    obtain ⟨rfl, rfl, rfl⟩ := hcs
    exact ⟨[], rfl, by simp, none, 0, rfl, Nat.le_refl _, .inl rfl⟩
  · simp [Value.cells] at hcs
    obtain ⟨rfl, rfl, rfl⟩ := hcs
    simp only [if_true] at hmm
    have hgo : ∀ i, i < len → ∃ s : Sg, s.v.length = 6 ∧ ∀ j u, (sgC s)[j]? = some u → W.cell? ((a.add (i * 8)).add j) = some u := fun i hi => by
      obtain ⟨cs, h1, h2⟩ := hall i (by omega)
      obtain ⟨s, h6, rfl⟩ := seg_open h2
      rw [cellsSeg] at h1
      obtain ⟨_, _, hc⟩ := World.cells?_some h1
      refine ⟨s, h6, fun j u hu => ?_⟩
      have hj : j < 8 := by
        have := (List.getElem?_eq_some_iff.1 hu).1
        simpa [sgC, h6] using this
      rw [hc j hj]
      exact hu
    obtain ⟨l, hll, hp⟩ := list_of len hgo
    refine ⟨l, hll, fun s hs => ?_, some a, cap, by rw [hll], by omega, ?_⟩
    · obtain ⟨i, hi⟩ := List.getElem?_of_mem hs
      exact (hp i s hi).1
    · by_cases hl0 : l = []
      · exact .inl hl0
      · right
        have hpos : 0 < l.length := List.length_pos_iff.2 hl0
        have hc0 := (hp 0 _ (List.getElem?_eq_getElem hpos)).2 0 _ rfl
        obtain ⟨b, o, sp⟩ := a
        have hsp : sp = none := by
          cases sp with
          | none => rfl
          | some z =>
            exfalso
            unfold World.cell? Addr.add at hc0
            (repeat' split at hc0) <;> simp_all
        subst hsp
        refine ⟨b, o, rfl, ?_, fun i s hi j u hu => ?_⟩
        · exact World.block_lt_of_cell? W _ hc0
        · have := (hp i s hi).2 j u hu
          rw [Addr.add_lit, Addr.add_lit] at this
          exact this

theorem gPow : Tryd.prog.globalNamed "internal/strconv.uint64pow10" = some 0 := by kernel_rfl
theorem tPow : (Tryd.prog.globals[0]?).map (·.type) = some 157 := by kernel_rfl
theorem cellsU64 : Tryd.prog.cellsOf 141 = 1 := by kernel_rfl
theorem cellsPow : Tryd.prog.cellsOf 157 = 20 := by kernel_rfl
def lay : List (String × DataW Unit) := [("math/bits.deBruijn32tab", Rows.laid_math_bits_deBruijn32tab), ("math/bits.deBruijn64tab", Rows.laid_math_bits_deBruijn64tab), ("internal/strconv.uint64pow10", Rows.laid_internal_strconv_uint64pow10), ("gesso/path.rules", Rows.laid_gesso_path_rules)]
theorem tab_of {W : World} (h : laidMetH Tryd.prog lay W) : Tab W := by
  have h1 := h.filter (fun x => x.1 == "internal/strconv.uint64pow10")
  rw [show lay.filter (fun x => x.1 == "internal/strconv.uint64pow10") = [("internal/strconv.uint64pow10", Lib.tabData .u64 Lib.pow10Tab)] from by kernel_rfl] at h1
  rw [MakeChecks.laidMetH_plain _ _ _ (by kernel_rfl)] at h1
  exact Lib.tabBelow_of_tabIs (Lib.tabIs_of_head gPow tPow Tryd.underlying157 Tryd.underlying141 cellsU64 cellsPow h1)
theorem gRul : Tryd.prog.globalNamed "gesso/path.rules" = some 2 := by kernel_rfl
theorem tRul : (Tryd.prog.globals[2]?).map (·.type) = some 170 := by kernel_rfl
theorem cellsRule : Tryd.prog.cellsOf 121 = 3 := by kernel_rfl
theorem cellsU8 : Tryd.prog.cellsOf 5 = 1 := by kernel_rfl
theorem cellsRules : Tryd.prog.cellsOf 170 = 30 := by kernel_rfl
theorem rule_open {W : World} {n : Nat} {c0 c1 c2 : Value} {a b c : Int} {p : List MemPlace} (h : DataW.trod (fun _ => ()) Tryd.prog W 0 (fun _ => true) false n 121 [c0, c1, c2] = some (.agg [.lit (.int .u8 a), .lit (.int .i64 b), .lit (.int .i64 c)], p)) :
    c0 = .int .u8 a ∧ c1 = .int .i64 b ∧ c2 = .int .i64 c := by
  obtain ⟨y0, y1, y2, m, hx, hl, h0, h1, h2⟩ := trod_struct3 Tryd.underlying121 h
  dsimp only at h0 h1 h2
  rw [cellsU8] at h0
  rw [cellsInt] at h1 h2
  simp only [List.drop_zero, List.drop_succ_cons, List.take_succ_cons, List.take_zero] at h0 h1 h2
  obtain ⟨z0, e0, f0, _⟩ := DataW.trod_int Tryd.underlying5 h0
  obtain ⟨z1, e1, f1, _⟩ := DataW.trod_int Tryd.underlying3 h1
  obtain ⟨z2, e2, f2, _⟩ := DataW.trod_int Tryd.underlying3 h2
  subst f0 f1 f2
  simp at hx e0 e1 e2
  obtain ⟨⟨rfl, rfl, rfl⟩, _⟩ := hx
  exact ⟨e0, e1, e2⟩
set_option maxRecDepth 1000000 in
set_option maxHeartbeats 4000000 in
theorem rul_of {W : World} (h : laidMetH Tryd.prog lay W) : Rul W := by
  have h1 := h.filter (fun x => x.1 == "gesso/path.rules")
  rw [show lay.filter (fun x => x.1 == "gesso/path.rules") = [("gesso/path.rules", Rows.laid_gesso_path_rules)] from by kernel_rfl] at h1
  rw [MakeChecks.laidMetH_plain _ _ _ (by kernel_rfl)] at h1
  obtain ⟨ps, ⟨g', t', cs, fuel, p, q, hg', ht', hvar, hd, _, _⟩, _⟩ := h1
  obtain rfl := Option.some.inj (gRul.symm.trans hg')
  obtain rfl := Option.some.inj (tRul.symm.trans ht')
  have hcell := fun i => World.var?_cell gRul hvar i
  obtain ⟨xs, m, _, hx, hl, hxl, hf⟩ := DataW.trod_array Tryd.underlying170 hd
  rw [cellsRules] at hl
  have hxs : xs.map (·.1) = _ := (congrArg Prod.fst hx).symm |> fun e => by
    have e2 := e
    unfold Rows.laid_gesso_path_rules at e2
    simp only [DataW.agg.injEq] at e2
    exact e2
  have hcs : cs.toList = rulesC := by
    generalize cs.toList = L at hl hf
    match L, hl, xs, hxl, hxs with
    | [a0, a1, a2, a3, a4, a5, a6, a7, a8, a9, a10, a11, a12, a13, a14, a15, a16, a17, a18, a19, a20, a21, a22, a23, a24, a25, a26, a27, a28, a29], _, [(d0, p0), (d1, p1), (d2, p2), (d3, p3), (d4, p4), (d5, p5), (d6, p6), (d7, p7), (d8, p8), (d9, p9)], _, hxs =>
      simp only [List.map_cons, List.map_nil, List.cons.injEq, and_true] at hxs
      obtain ⟨rfl, rfl, rfl, rfl, rfl, rfl, rfl, rfl, rfl, rfl⟩ := hxs
      have f0 := hf 0 (by omega)
      have f1 := hf 1 (by omega)
      have f2 := hf 2 (by omega)
      have f3 := hf 3 (by omega)
      have f4 := hf 4 (by omega)
      have f5 := hf 5 (by omega)
      have f6 := hf 6 (by omega)
      have f7 := hf 7 (by omega)
      have f8 := hf 8 (by omega)
      have f9 := hf 9 (by omega)
      rw [cellsRule] at f0 f1 f2 f3 f4 f5 f6 f7 f8 f9
      simp only [Nat.reduceMul, List.drop_zero, List.drop_succ_cons, List.take_succ_cons, List.take_zero, List.getElem?_cons_zero, List.getElem?_cons_succ] at f0 f1 f2 f3 f4 f5 f6 f7 f8 f9
      obtain ⟨rfl, rfl, rfl⟩ := rule_open f0
      obtain ⟨rfl, rfl, rfl⟩ := rule_open f1
      obtain ⟨rfl, rfl, rfl⟩ := rule_open f2
      obtain ⟨rfl, rfl, rfl⟩ := rule_open f3
      obtain ⟨rfl, rfl, rfl⟩ := rule_open f4
      obtain ⟨rfl, rfl, rfl⟩ := rule_open f5
      obtain ⟨rfl, rfl, rfl⟩ := rule_open f6
      obtain ⟨rfl, rfl, rfl⟩ := rule_open f7
      obtain ⟨rfl, rfl, rfl⟩ := rule_open f8
      obtain ⟨rfl, rfl, rfl⟩ := rule_open f9
      rfl
  intro j v hj
  rw [Nat.zero_add]
  have := hcell j
  rw [this, ← Array.getElem?_toList, hcs]
  exact hj
theorem base_of {W : World} (h : laidMetH Tryd.prog lay W) : Base W := by
  have hr := rul_of h
  refine ⟨hr, ?_, tab_of h⟩
  exact World.block_lt_of_cell? W _ (hr 0 _ rfl)
theorem door_met (os : Os) (args : Array Value) : laidMetH Tryd.prog lay ((World.doorLaid Tryd.prog 400 os).forCall (fun _ _ => 0) ⟨#[], args, []⟩).memory :=
  laidMetH_of_parts3 (fuel := 8) (laidMet_of_run' 8 (by kernel_rfl) (by kernel_rfl)) (by kernel_rfl) (by kernel_rfl)
end Go.Proofs.YtefajplbgmikdaaDoor

/-
  How a row of commands that came in is read.
-/
namespace Go.Proofs.YtefajplbgmikdaaDoor
open Go.ChangeShapes Go.WideShapes Go.ChangeAt Go.WideMaps Go.WideElems Go.RowKit Go.Deep Go.Joins

theorem list_any {α : Type} {p : Nat → α → Prop} : ∀ n, (∀ i, i < n → ∃ s, p i s) → ∃ l : List α, l.length = n ∧ ∀ (i : Nat) s, l[i]? = some s → p i s
  | 0, _ => ⟨[], rfl, by simp⟩
  | n + 1, h => by
    obtain ⟨l, hl, hp⟩ := list_any n (fun i hi => h i (by omega))
    obtain ⟨s, hs⟩ := h n (by omega)
    refine ⟨l ++ [s], by simp [hl], fun i t ht => ?_⟩
    by_cases hi : i < n
    · rw [List.getElem?_append_left (by omega)] at ht
      exact hp i t ht
    · have hin : i = n := by
        have := (List.getElem?_eq_some_iff.1 ht).1
        simp at this
        omega
      subst hin
      rw [List.getElem?_append_right (by omega), hl] at ht
      simp at ht
      subst ht
      exact hs
theorem addr_plain {W : World} {a : Addr} {v : Value} (h : W.cell? (a.add 0) = some v) : ∃ b o, a = ⟨b, o, none⟩ := by
  obtain ⟨b, o, sp⟩ := a
  cases sp with
  | none => exact ⟨b, o, rfl⟩
  | some z =>
    exfalso
    unfold World.cell? Addr.add at h
    (repeat' split at h) <;> simp_all
theorem opened_nums {H : Type} {enc : TypeId × Value → H} {W : World} {n : Nat} {c : Value} {y : DataW H × List MemPlace}
    (h : DataW.trod enc Tryd.prog W 0 (fun _ => true) true n 60 [c] = some y) : ∃ l : List Int, NumRow W c l ∧ l.length ≤ maxLen := by
  rcases open_slice Tryd.underlying60 h with ⟨hcs, _⟩ | ⟨a, len, cap, m, k, D, Pl, hcs, _, hl, hm, hmm, _, hall⟩
  · simp only [List.cons.injEq, and_true] at hcs
    subst hcs
    exact ⟨[], ⟨none, 0, rfl, Nat.le_refl _, fun h => absurd rfl h⟩, by simp⟩
  · simp only [List.cons.injEq, and_true] at hcs
    subst hcs
    simp only [if_true] at hmm
    have hgo : ∀ i, i < len → ∃ x : Int, W.cell? (a.add i) = some (.int .i64 x) := fun i hi => by
      obtain ⟨cs, h1, h2⟩ := hall i (by omega)
      rw [cellsInt64, Nat.mul_one] at h1
      obtain ⟨_, hlen, _⟩ := World.cells?_some h1
      match cs, hlen with
      | [v], _ =>
        obtain ⟨z, rfl⟩ := one_of Tryd.underlying2 h2
        exact ⟨z, cell_of_cells?_one h1⟩
    obtain ⟨l, hll, hp⟩ := list_any len hgo
    refine ⟨l, ⟨some a, cap, by rw [hll], by omega, fun hne => ?_⟩, by omega⟩
    have hpos : 0 < l.length := List.length_pos_iff.2 hne
    obtain ⟨b, o, rfl⟩ := addr_plain (hp 0 _ (List.getElem?_eq_getElem hpos))
    refine ⟨b, o, rfl, fun j x hj => ?_⟩
    have := hp j x hj
    rwa [Addr.add_lit] at this
theorem cellsCmd : Tryd.prog.cellsOf 73 = 4 := by kernel_rfl
theorem cellsNums : Tryd.prog.cellsOf 60 = 1 := by kernel_rfl
theorem cellsSegs : Tryd.prog.cellsOf 22 = 1 := by kernel_rfl
set_option maxRecDepth 100000 in
theorem cmd_open {H : Type} {enc : TypeId × Value → H} {W : World} {n : Nat} {cs : List Value} {x : DataW H × List MemPlace} (h : DataW.trod enc Tryd.prog W 0 (fun _ => true) true n 73 cs = some x) :
    ∃ (c : Cm) (nv pv : Value), cs = [.int .i64 c.kind, nv, pv, .int .i64 c.place] ∧ NumRow W nv c.n ∧ SegRow W W.heap.size pv c.path ∧ ∀ s ∈ c.path, s.v.length = 6 := by
  obtain ⟨y0, y1, y2, y3, m, _, hl, h0, h1, h2, h3⟩ := trod_struct4 Tryd.underlying73 h
  rw [cellsCmd] at hl
  match cs, hl with
  | [c0, c1, c2, c3], _ =>
    dsimp only at h0 h1 h2 h3
    rw [cellsInt] at h0 h3
    rw [cellsNums] at h1
    rw [cellsSegs] at h2
    simp only [List.drop_zero, List.drop_succ_cons, List.take_succ_cons, List.take_zero] at h0 h1 h2 h3
    obtain ⟨k, rfl⟩ := one_of Tryd.underlying3 h0
    obtain ⟨pl, rfl⟩ := one_of Tryd.underlying3 h3
    obtain ⟨l, hn, _⟩ := opened_nums h1
    have hs : ∃ p : List Sg, (∀ s ∈ p, s.v.length = 6) ∧ SegRow W W.heap.size c2 p := by
      rcases open_slice Tryd.underlying22 h2 with ⟨hcs, _⟩ | ⟨a, len, cap, m2, k2, D, Pl, hcs, _⟩
      · simp only [List.cons.injEq, and_true] at hcs
        subst hcs
        exact ⟨[], by simp, none, 0, rfl, Nat.le_refl _, .inl rfl⟩
      · simp only [List.cons.injEq, and_true] at hcs
        subst hcs
        obtain ⟨p, _, h6, hr⟩ := opened_segs (d0 := y2.1) (p := y2.2) ⟨m, h2⟩
        exact ⟨p, h6, hr⟩
    obtain ⟨p, h6, hr⟩ := hs
    exact ⟨⟨k, l, p, pl⟩, c1, c2, rfl, hn, hr, h6⟩
/-- A row of commands that came in. -/
theorem opened_cmds {H : Type} {enc : TypeId × Value → H} {W : World} {a0 : Option Addr} {len cap : Nat} {d0 : DataW H} {p : List MemPlace}
    (h0 : DataW.Trod enc Tryd.prog W 0 (fun _ => true) true 49 (.slice a0 len cap) d0 p) : ∃ l : List Cm, l.length = len ∧ l.length ≤ maxLen ∧ (∀ c ∈ l, ∀ s ∈ c.path, s.v.length = 6) ∧ CmdRow W (.slice a0 len cap) l := by
  obtain ⟨fuel, hf⟩ := h0
  rcases open_slice Tryd.underlying49 hf with ⟨hcs, hx⟩ | ⟨a, len', cap', m, n, D, Pl, hcs, _, hl, hm, hmm, hx, hall⟩
  · simp [Value.cells] at hcs
    obtain ⟨rfl, rfl, rfl⟩ := hcs
    exact ⟨[], rfl, by simp, by simp, none, 0, rfl, Nat.le_refl _, by simp⟩
  · simp [Value.cells] at hcs
    obtain ⟨rfl, rfl, rfl⟩ := hcs
    simp only [if_true] at hmm
    have hgo : ∀ i, i < len → ∃ c : Cm, ∃ nv pv, (∀ j u, ([.int .i64 c.kind, nv, pv, .int .i64 c.place] : List Value)[j]? = some u → W.cell? ((a.add (i * 4)).add j) = some u) ∧ NumRow W nv c.n ∧ SegRow W W.heap.size pv c.path ∧ ∀ s ∈ c.path, s.v.length = 6 := fun i hi => by
      obtain ⟨cs, h1, h2⟩ := hall i (by omega)
      obtain ⟨c, nv, pv, rfl, hn, hs, h6⟩ := cmd_open h2
      rw [cellsCmd] at h1
      obtain ⟨_, _, hc⟩ := World.cells?_some h1
      refine ⟨c, nv, pv, fun j u hu => ?_, hn, hs, h6⟩
      have hj : j < 4 := by
        have := (List.getElem?_eq_some_iff.1 hu).1
        simpa using this
      rw [hc j hj]
      exact hu
    obtain ⟨l, hll, hp⟩ := list_any len hgo
    refine ⟨l, hll, by omega, fun c hc => ?_, some a, cap, by rw [hll], by omega, fun i c hi => ?_⟩
    · obtain ⟨i, hi⟩ := List.getElem?_of_mem hc
      obtain ⟨_, _, _, _, _, h6⟩ := hp i c hi
      exact h6
    · obtain ⟨nv, pv, hc, hn, hs, h6⟩ := hp i c hi
      have ha : ∃ b o, a = ⟨b, o, none⟩ := by
        obtain ⟨_, _, hc0, _⟩ := hp 0 _ (List.getElem?_eq_getElem (show 0 < l.length by have := (List.getElem?_eq_some_iff.1 hi).1; omega))
        have h := hc0 0 _ rfl
        have e : (a.add (0 * 4)) = a.add 0 := rfl
        rw [e] at h
        have e2 : (a.add 0).add 0 = a.add 0 := by unfold Addr.add; rfl
        rw [e2] at h
        exact addr_plain h
      obtain ⟨b, o, rfl⟩ := ha
      have g := fun j u hu => by
        have := hc j u hu
        rw [Addr.add_lit, Addr.add_lit] at this
        exact this
      exact ⟨b, o, nv, pv, rfl, ⟨g 0 _ rfl, g 1 _ rfl, g 2 _ rfl, g 3 _ rfl⟩, hn, hs, h6⟩
end Go.Proofs.YtefajplbgmikdaaDoor
