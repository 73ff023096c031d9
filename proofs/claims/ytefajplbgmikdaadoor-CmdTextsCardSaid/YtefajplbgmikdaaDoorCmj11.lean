/-
  A row of parts, copied by an append to an empty row.
-/
import Derived.Test.YtefajplbgmikdaaDoorCmj10
import Derived.Test.YtefajplbgmikdaaDoorCmj5
import Derived.Laws.CopyRow
import Derived.MapKept
import Derived.Test.YtefajplbgmikdaaDoorCmj3
namespace Go.Proofs.YtefajplbgmikdaaDoor
open Go.RowKit

theorem flat_inv {α β : Type} {f : α → List β} {n : Nat} (hn : 0 < n) : ∀ {l : List α} {j : Nat} {v : β}, (∀ y ∈ l, (f y).length = n) → (l.flatMap f)[j]? = some v → ∃ x, l[j / n]? = some x ∧ (f x)[j % n]? = some v
  | [], j, v, _, h => by simp at h
  | y :: l, j, v, hf, h => by
    have hy := hf y (by simp)
    rw [List.flatMap_cons] at h
    by_cases hj : j < n
    · rw [List.getElem?_append_left (by omega)] at h
      rw [Nat.div_eq_of_lt hj, Nat.mod_eq_of_lt hj]
      exact ⟨y, rfl, h⟩
    · rw [List.getElem?_append_right (by omega), hy] at h
      obtain ⟨x, h1, h2⟩ := flat_inv hn (fun z hz => hf z (by simp [hz])) h
      have e : j = (j - n) + n := by omega
      rw [e, Nat.add_div_right _ hn, Nat.add_mod_right]
      exact ⟨x, by simpa using h1, h2⟩
theorem run_copy_none {P : Program} (w : World) (t ty e : TypeId) (i : TypeInfo) (ht : P.underlying t = some (.slice e)) (hi : P.info? e = some i) (g c : Nat) :
    (Builtin.append_ #[t, t] ty #[.slice (some ⟨g, 0, none⟩) 0 0, .slice none 0 c]).run P w = .ok (.slice (some ⟨g, 0, none⟩) 0 0) w := by
  simp [Builtin.append_, run_underlying ht, sizeOf, typeInfo, hi, Builtin.lenOf, Builtin.firstCells, storeCells]
theorem sgC_one {s : Sg} {u : Value} (h : u ∈ sgC s) : u.oneCell' = true := by
  unfold sgC at h
  simp only [List.mem_cons, List.mem_append, List.mem_map, List.not_mem_nil, or_false] at h
  rcases h with (rfl | ⟨x, _, rfl⟩) | rfl <;> rfl
theorem len_segs : ∀ (l : List Sg), (∀ s ∈ l, s.v.length = 6) → (l.flatMap sgC).length = l.length * 8
  | [], _ => rfl
  | s :: r, h => by
    rw [List.flatMap_cons, List.length_append, len_segs r (fun x hx => h x (by simp [hx])), List.length_cons]
    simp [sgC, h s (by simp)]
    omega
theorem run_copy_segs (w : World) (ty : TypeId) (g : Nat) (hg : w.heap[g]? = some (.cells #[] 36 (0, 0))) (p : Option Addr) (c N : Nat) (l : List Sg) (h6 : ∀ s ∈ l, s.v.length = 6) (hR : SegRow w N (.slice p l.length c) l) (hl : l.length ≤ 1000000) :
    ∃ p' c' w', (Builtin.append_ #[22, 22] ty #[.slice (some ⟨g, 0, none⟩) 0 0, .slice p l.length c]).run Tryd.prog w = .ok (.slice p' l.length c') w' ∧ SegRow w' w'.heap.size (.slice p' l.length c') l ∧ Below g w w' := by
  obtain ⟨i0, hi, hz0, hz1, hz2⟩ := info_parts infoSeg
  have hgl : g < w.heap.size := (Array.getElem?_eq_some_iff.1 hg).1
  have hown : w.ownsRow g 36 8 (.slice (some ⟨g, 0, none⟩) 0 0) 0 [] := ⟨rfl, .inr ⟨g, 0, #[], rfl, Nat.le_refl _, hg, Nat.le_refl _, by decide, rfl, rfl⟩⟩
  obtain ⟨p0, c0, he, hle, hcells⟩ := hR
  simp only [Value.slice.injEq, true_and] at he
  obtain ⟨rfl, rfl⟩ := he
  cases p with
  | none =>
    have hx : l = [] := by
      rcases hcells with h | ⟨b, o, h, _⟩
      · exact h
      · cases h
    subst hx
    exact ⟨_, _, w, run_copy_none (P := Tryd.prog) w _ ty _ i0 Tryd.underlying22 hi g c, ⟨_, _, rfl, Nat.le_refl _, .inl rfl⟩, Below.refl _ _⟩
  | some a =>
    have hc1 : ∀ j u, (l.flatMap sgC)[j]? = some u → w.cell? (a.add j) = some u := fun j u hj => by
      obtain ⟨s, h1, h2⟩ := flat_inv (n := 8) (by decide) (fun s hs => by simp [sgC, h6 s hs]) hj
      rcases hcells with h | ⟨b, o, h, _, hc⟩
      · subst h; simp at hj
      · obtain rfl : a = ⟨b, o, none⟩ := Option.some.inj h
        have := hc _ s h1 _ u h2
        rw [show o + j / 8 * 8 + j % 8 = o + j by omega] at this
        rw [Addr.add_lit]
        exact this
    obtain ⟨v', w', hr, hown', hgrow, _⟩ := run_append_own (P := Tryd.prog) w g 22 ty 36 i0 _ 8 64 Tryd.underlying22 hi hz0 hz1 hz2 rfl (by decide) (.slice (some ⟨g, 0, none⟩) 0 0) 0 [] hown a l.length c (l.flatMap sgC) (len_segs l h6) hc1 (fun u hu => by obtain ⟨s, _, hs⟩ := List.mem_flatMap.1 hu; exact sgC_one hs) (by unfold maxLen; omega) (by omega) (by omega)
    rw [List.nil_append, Nat.zero_add] at hown'
    have hs' : SRow w' g v' l := hown'
    have hrow := SRow.read hs' h6
    obtain ⟨p', c', rfl, _⟩ := hs'.form
    exact ⟨p', c', w', hr, hrow, (Below.refl _ _).grown hgrow (by omega) (fun k hk => by simp [Value.ownBlock] at hk; omega)⟩
theorem wpList_copy_segs {w : World} {ops : Array Oper} {rest : List Oper} {o : Oper} {a : Act} {Q : Exit → Act → World → Prop} (hgd : o.guard = none) (s x : Operand)
    (ho : o.op = .call { callee := .builtin .append, args := #[s, x], argTypes := #[22, 22] })
    (g : Nat) (hs : a.eval s = .slice (some ⟨g, 0, none⟩) 0 0) (hg : w.heap[g]? = some (.cells #[] 36 (0, 0))) (p : Option Addr) (c N : Nat) (l : List Sg) (h6 : ∀ s ∈ l, s.v.length = 6) (hx : a.eval x = .slice p l.length c) (hR : SegRow w N (.slice p l.length c) l) (hl : l.length ≤ 1000000)
    (h : ∀ p' c' w', SegRow w' w'.heap.size (.slice p' l.length c') l → Below g w w' → wpList Tryd.prog ops Q rest (a.put o.dst (.slice p' l.length c')) w') : wpList Tryd.prog ops Q (o :: rest) a w := by
  refine wpList_plain hgd fun K hK' => ?_
  obtain ⟨p', c', w', hr, h3, h4⟩ := run_copy_segs w o.type g hg p c N l h6 hR hl
  unfold Oper.wp execOp
  simp only [ho, resolve, invoke, builtin, Sem.run_bind, Sem.run_pure, Result.andThen_ok, List.map_toArray, List.map_cons, List.map_nil, hs, hx, hr]
  exact hK' _ _ (h p' c' w' h3 h4)
end Go.Proofs.YtefajplbgmikdaaDoor

/-
  The walk of kinds.
-/
namespace Go.Proofs.YtefajplbgmikdaaDoor
open Go.RowKit

def wordsV (a b c k : Nat) : Value := if k = 5 then .slice (some ⟨a, 0, none⟩) 2 2 else if k = 9 then .slice (some ⟨b, 0, none⟩) 3 3 else if k = 10 then .slice (some ⟨c, 0, none⟩) 3 3 else .slice none 0 0
def kindV (a b c k : Nat) : List Value := [.string ⟨(nameK k).toArray⟩, .int .i64 (countC k), wordsV a b c k, .bool (pathK k), .bool (dashK k)]
def kindsV (a b c : Nat) : List Value := (List.range 16).flatMap (kindV a b c)
/-- The rows of words. -/
structure Wrd (w : World) (a b c : Nat) : Prop where
  a : w.heap[a]? = some (.cells #[.string ⟨#[110, 111, 110, 122, 101, 114, 111]⟩, .string ⟨#[101, 118, 101, 110, 111, 100, 100]⟩] 9 (0, 0))
  b : w.heap[b]? = some (.cells #[.string ⟨#[98, 117, 116, 116]⟩, .string ⟨#[115, 113, 117, 97, 114, 101]⟩, .string ⟨#[114, 111, 117, 110, 100]⟩] 9 (0, 0))
  c : w.heap[c]? = some (.cells #[.string ⟨#[109, 105, 116, 101, 114]⟩, .string ⟨#[98, 101, 118, 101, 108]⟩, .string ⟨#[114, 111, 117, 110, 100]⟩] 9 (0, 0))
theorem Wrd.bel {w w' : World} {a b c : Nat} (h : Wrd w a b c) (hb : Bel w w') : Wrd w' a b c := ⟨hb.heap h.a, hb.heap h.b, hb.heap h.c⟩

set_option maxRecDepth 100000
theorem wpList_value {P : Program} {ops : Array Oper} {rest : List Oper} {o : Oper} {a : Act} {w : World} {Q : Exit → Act → World → Prop} (hg : o.guard = none) (v : Value) (w' : World) (hr : (execOp a.eval o).run P w = .ok (.value v) w')
    (h : wpList P ops Q rest (a.put o.dst v) w') : wpList P ops Q (o :: rest) a w := by
  refine wpList_plain hg fun K' hK' => ?_
  unfold Oper.wp
  rw [hr]
  exact hK' _ _ h
theorem wpList_unit {P : Program} {ops : Array Oper} {rest : List Oper} {o : Oper} {a : Act} {w : World} {Q : Exit → Act → World → Prop} (hg : o.guard = none) (w' : World) (hr : (execOp a.eval o).run P w = .ok .skip w')
    (h : wpList P ops Q rest (a.put o.dst undef) w') : wpList P ops Q (o :: rest) a w := by
  refine wpList_plain hg fun K' hK' => ?_
  unfold Oper.wp
  rw [hr]
  exact hK' _ _ h
def Z79 : Array Value := ((List.range 16).flatMap fun _ => [Value.string ⟨#[]⟩, .int .i64 0, .slice none 0 0, .bool false, .bool false]).toArray
set_option maxHeartbeats 400000 in
theorem kinds_any (w : World) : Calls Tryd.prog 40 #[] w fun e w' => Bel w w' ∧ ∃ a b c, e = .returned (.agg (kindsV a b c).toArray) ∧ Wrd w' a b c := by
  go_enter Tryd.func40, Tryd.ntmps40
  go_upto_region 1 with fail
  rename_i hK
  refine wp_region_lit ?_
  obtain ⟨W0, hW0⟩ : ∃ V, w.alloc (.cells Z79 79) = V := ⟨_, rfl⟩
  change wpList _ _ _ _ _ (w.alloc (.cells Z79 79))
  rw [hW0]
  refine wpList_value rfl (.agg #[.string ⟨#[99, 97, 110, 118, 97, 115]⟩, .int .i64 5, .slice none 0 0, .bool false, .bool false]) W0 (by kernel_rfl) ?_
  refine wpList_value rfl (.agg #[.string ⟨#[109, 97, 116, 114, 105, 120]⟩, .int .i64 6, .slice none 0 0, .bool false, .bool false]) W0 (by kernel_rfl) ?_
  refine wpList_value rfl (.agg #[.string ⟨#[112, 117, 115, 104]⟩, .int .i64 0, .slice none 0 0, .bool false, .bool false]) W0 (by kernel_rfl) ?_
  refine wpList_value rfl (.agg #[.string ⟨#[112, 111, 112]⟩, .int .i64 0, .slice none 0 0, .bool false, .bool false]) W0 (by kernel_rfl) ?_
  refine wpList_value rfl (.slice (some ⟨W0.heap.size, 0, none⟩) 2 2) (W0.alloc (.cells #[.string ⟨#[110, 111, 110, 122, 101, 114, 111]⟩, .string ⟨#[101, 118, 101, 110, 111, 100, 100]⟩] 9)) (by kernel_rfl) ?_
  obtain ⟨WA, hWA⟩ : ∃ V, (W0.alloc (.cells #[.string ⟨#[110, 111, 110, 122, 101, 114, 111]⟩, .string ⟨#[101, 118, 101, 110, 111, 100, 100]⟩] 9)) = V := ⟨_, rfl⟩
  rw [hWA]
  refine wpList_value rfl (.agg #[.string ⟨#[114, 117, 108, 101]⟩, .int .i64 0, .slice (some ⟨W0.heap.size, 0, none⟩) 2 2, .bool false, .bool false]) WA (by kernel_rfl) ?_
  refine wpList_value rfl (.agg #[.string ⟨#[99, 111, 108, 111, 114]⟩, .int .i64 4, .slice none 0 0, .bool false, .bool false]) WA (by kernel_rfl) ?_
  refine wpList_value rfl (.agg #[.string ⟨#[116, 111, 108]⟩, .int .i64 1, .slice none 0 0, .bool false, .bool false]) WA (by kernel_rfl) ?_
  refine wpList_value rfl (.agg #[.string ⟨#[119, 105, 100, 116, 104]⟩, .int .i64 1, .slice none 0 0, .bool false, .bool false]) WA (by kernel_rfl) ?_
  refine wpList_value rfl (.slice (some ⟨WA.heap.size, 0, none⟩) 3 3) (WA.alloc (.cells #[.string ⟨#[98, 117, 116, 116]⟩, .string ⟨#[115, 113, 117, 97, 114, 101]⟩, .string ⟨#[114, 111, 117, 110, 100]⟩] 9)) (by kernel_rfl) ?_
  obtain ⟨WB, hWB⟩ : ∃ V, (WA.alloc (.cells #[.string ⟨#[98, 117, 116, 116]⟩, .string ⟨#[115, 113, 117, 97, 114, 101]⟩, .string ⟨#[114, 111, 117, 110, 100]⟩] 9)) = V := ⟨_, rfl⟩
  rw [hWB]
  refine wpList_value rfl (.agg #[.string ⟨#[99, 97, 112]⟩, .int .i64 0, .slice (some ⟨WA.heap.size, 0, none⟩) 3 3, .bool false, .bool false]) WB (by kernel_rfl) ?_
  refine wpList_value rfl (.slice (some ⟨WB.heap.size, 0, none⟩) 3 3) (WB.alloc (.cells #[.string ⟨#[109, 105, 116, 101, 114]⟩, .string ⟨#[98, 101, 118, 101, 108]⟩, .string ⟨#[114, 111, 117, 110, 100]⟩] 9)) (by kernel_rfl) ?_
  obtain ⟨WC, hWC⟩ : ∃ V, (WB.alloc (.cells #[.string ⟨#[109, 105, 116, 101, 114]⟩, .string ⟨#[98, 101, 118, 101, 108]⟩, .string ⟨#[114, 111, 117, 110, 100]⟩] 9)) = V := ⟨_, rfl⟩
  rw [hWC]
  refine wpList_value rfl (.agg #[.string ⟨#[106, 111, 105, 110]⟩, .int .i64 0, .slice (some ⟨WB.heap.size, 0, none⟩) 3 3, .bool false, .bool false]) WC (by kernel_rfl) ?_
  refine wpList_value rfl (.agg #[.string ⟨#[109, 105, 116, 101, 114]⟩, .int .i64 1, .slice none 0 0, .bool false, .bool false]) WC (by kernel_rfl) ?_
  refine wpList_value rfl (.agg #[.string ⟨#[100, 97, 115, 104]⟩, .int .i64 0, .slice none 0 0, .bool false, .bool true]) WC (by kernel_rfl) ?_
  refine wpList_value rfl (.agg #[.string ⟨#[102, 105, 108, 108]⟩, .int .i64 0, .slice none 0 0, .bool true, .bool false]) WC (by kernel_rfl) ?_
  refine wpList_value rfl (.agg #[.string ⟨#[115, 116, 114, 111, 107, 101]⟩, .int .i64 0, .slice none 0 0, .bool true, .bool false]) WC (by kernel_rfl) ?_
  refine wpList_value rfl (.agg #[.string ⟨#[99, 108, 105, 112]⟩, .int .i64 0, .slice none 0 0, .bool true, .bool false]) WC (by kernel_rfl) ?_

  refine wpList_value rfl (.agg (kindsV W0.heap.size WA.heap.size WB.heap.size).toArray) WC (by kernel_rfl) ?_
  have hz : WC.heap[w.heap.size]? = some (.cells Z79 79 (0, 0)) := by
    rw [← hWC, ← hWB, ← hWA, ← hW0]
    exact heap_push_of (heap_push_of (heap_push_of (heap_alloc_new _ _) _) _) _
  refine wpList_store_row rfl 79 (.tmp 0) (.tmp 19) rfl w.heap.size (kindsV W0.heap.size WA.heap.size WB.heap.size).toArray (by kernel_rfl) (by kernel_rfl) 79 Z79 hz (by kernel_rfl) (by kernel_rfl) (by kernel_rfl) ?_
  have hz2 := setRow_heap WC w.heap.size Z79 (kindsV W0.heap.size WA.heap.size WB.heap.size).toArray _ _ hz
  have hl : w.heap.size < W0.heap.size := by rw [← hW0]; simp
  have hla : W0.heap.size < WA.heap.size := by rw [← hWA]; simp
  have hlb : WA.heap.size < WB.heap.size := by rw [← hWB]; simp
  have hb : Bel w WC := by rw [← hWC, ← hWB, ← hWA, ← hW0]; exact ((((Bel.refl w).alloc _).alloc _).alloc _).alloc _
  have hwrd : Wrd WC W0.heap.size WA.heap.size WB.heap.size := ⟨by rw [← hWC, ← hWB, ← hWA]; exact heap_push_of (heap_push_of (heap_alloc_new _ _) _) _, by rw [← hWC, ← hWB]; exact heap_push_of (heap_alloc_new _ _) _, by rw [← hWC]; exact heap_alloc_new _ _⟩
  rw [wpList]
  refine hK _ _ ?_
  apply wp_ret
  change bodyPost _ _ _ .ret _ _
  refine bodyPost_ret (v := .agg (kindsV W0.heap.size WA.heap.size WB.heap.size).toArray) (results_cell_row rfl _ _ w.heap.size 79 (kindsV W0.heap.size WA.heap.size WB.heap.size).toArray (0, 0) _ (by kernel_rfl) hz2 Tryd.underlying79 rfl (by kernel_rfl)) (by kernel_rfl) ?_
  refine ⟨below_setRow hb (Nat.le_refl _) _, _, _, _, rfl, ?_⟩
  exact ⟨(setRow_other _ _ _ _ (by omega)).trans hwrd.a, (setRow_other _ _ _ _ (by omega)).trans hwrd.b, (setRow_other _ _ _ _ (by omega)).trans hwrd.c⟩
end Go.Proofs.YtefajplbgmikdaaDoor

/-
  The walk of slices.Repeat at one span; the rows of spans.
-/
namespace Go.Proofs.YtefajplbgmikdaaDoor
open Go.RowKit

def rpt (k : Nat) (x : Int × Int) : List Value := (List.replicate k [Value.int .i64 x.1, Value.int .i64 x.2]).flatten
theorem rpt_len (k : Nat) (x : Int × Int) : (rpt k x).length = 2 * k := by simp [rpt, Nat.mul_comm]
theorem rpt_add (k m : Nat) (x : Int × Int) : rpt (k + m) x = rpt k x ++ rpt m x := by simp [rpt, ← List.replicate_append_replicate]
theorem rpt_take (k m : Nat) (x : Int × Int) (h : m ≤ k) : (rpt k x).take (2 * m) = rpt m x := by
  obtain ⟨d, rfl⟩ : ∃ d, k = m + d := ⟨k - m, by omega⟩
  rw [rpt_add, List.take_append_of_le_length (by rw [rpt_len]; omega), List.take_of_length_le (by rw [rpt_len]; omega)]
/-- A row of n spans, of which k are laid. -/
def Rep (w : World) (g n k : Nat) (x : Int × Int) : Prop := ∃ C : List Value, w.heap[g]? = some (.cells C.toArray 131 (0, 0)) ∧ C.length = 2 * n ∧ C.take (2 * k) = rpt k x
theorem info_span : (Tryd.prog.info? 131).map (fun i => (i.zero, i.size, i.bytes)) = some (some (.agg #[.int .i64 0, .int .i64 0]), 2, 16) := by kernel_rfl
theorem rpt_one {k : Nat} {x : Int × Int} {u : Value} (h : u ∈ rpt k x) : u.oneCell' = true := by
  unfold rpt at h
  obtain ⟨l, hl, hu⟩ := List.mem_flatten.1 h
  obtain ⟨_, rfl⟩ := List.mem_replicate.1 hl
  simp only [List.mem_cons, List.not_mem_nil, or_false] at hu
  rcases hu with rfl | rfl <;> rfl
theorem wpList_copy_run2 {P : Program} {w : World} {ops : Array Oper} {rest : List Oper} {o : Oper} {a : Act} {Q : Exit → Act → World → Prop} (hgd : o.guard = none) (d s : Operand) (t t' : TypeId)
    (ho : o.op = .call { callee := .builtin .copy, args := #[d, s], argTypes := #[t, t'] }) (v u : Value) (hd : a.eval d = v) (hs : a.eval s = u) {v' : Value} {w' : World}
    (hr : (Builtin.copy_ #[t, t'] o.type #[v, u]).run P w = .ok v' w') (h : wpList P ops Q rest (a.put o.dst v') w') : wpList P ops Q (o :: rest) a w := by
  refine wpList_plain hgd fun K' hK' => ?_
  unfold Oper.wp execOp
  simp only [ho, resolve, invoke, builtin, Sem.run_bind, Sem.run_pure, Result.andThen_ok, List.map_toArray, List.map_cons, List.map_nil, hd, hs, hr]
  exact hK' _ _ h
theorem step_copy_run2 {P : Program} {ops : Array Oper} {o : Oper} {a : Act} {w : World} {K : Act → World → Prop} {Q : Exit → Act → World → Prop} {E : Prop}
    (hg : o.guard = none) (d x : Operand) (dT sT : TypeId) (hop : o.op = Op.call { callee := Callee.builtin Builtin.copy, args := #[d, x], argTypes := #[dT, sT] })
    (v u : Value) (hd : a.eval d = v) (hx : a.eval x = u) {v' : Value} {w' : World} (hr : (Builtin.copy_ #[dT, sT] o.type #[v, u]).run P w = .ok v' w') (hK : K (a.put o.dst v') w') :
    if Region.wanted o (yielded ops a.tmps) = true then Oper.wp P o a w K Q else E := by
  have hw : Region.wanted o (yielded ops a.tmps) = true := by simp [Region.wanted, hg]
  rw [if_pos hw]
  unfold Oper.wp execOp
  simp only [hop, resolve, invoke, builtin, Sem.run_bind, Sem.run_pure, Result.andThen_ok, List.map_toArray, List.map_cons, List.map_nil, hd, hx, hr]
  exact hK
theorem run_copy_span (w : World) (ty : TypeId) (g n k m : Nat) (x : Int × Int) (h : Rep w g n k x) (ao : Option Addr) (dLen dCap : Nat) (hao : 0 < m → ao = some ⟨g, 2 * k, none⟩) (a : Addr) (sLen sCap : Nat) (hm : Nat.min sLen dLen = m) (hk : k + m ≤ n)
    (hsrc : ∀ j v, (rpt m x)[j]? = some v → w.cell? (a.add j) = some v) :
    ∃ w', (Builtin.copy_ #[128, 128] ty #[.slice ao dLen dCap, .slice (some a) sLen sCap]).run Tryd.prog w = .ok (goInt m) w' ∧ Rep w' g n (k + m) x ∧ ∀ (w0 : World), Bel w0 w → w0.heap.size ≤ g → Bel w0 w' := by
  obtain ⟨C, hg, hC, ht⟩ := h
  by_cases h0 : m = 0
  · subst h0
    cases hq : Tryd.prog.info? 131 with
    | none => have := info_span; rw [hq] at this; cases this
    | some i =>
      refine ⟨w, ?_, ⟨C, hg, hC, ht⟩, fun _ h _ => h⟩
      cases ao with
      | none => simp [Builtin.copy_, run_underlying Tryd.underlying128, Builtin.lenOf, Builtin.firstCells, sizeOf, typeInfo, hq, hm, loadCells, loadCellsFrom]
      | some b => simp [Builtin.copy_, run_underlying Tryd.underlying128, Builtin.lenOf, Builtin.firstCells, sizeOf, typeInfo, hq, hm, loadCells, loadCellsFrom, storeCells]
  · obtain rfl := hao (by omega)
    have hl := run_loadCells_list (P := Tryd.prog) w a (rpt m x) hsrc
    have hst := run_storeCells_at Tryd.prog g (2 * k) 131 (rpt m x) 0 C.toArray w hg (by rw [rpt_len]; simp; omega) (fun v hv => rpt_one hv)
    rw [Nat.add_zero, rpt_len] at hst
    refine ⟨w.setRow g (C.take (2 * k) ++ rpt m x ++ C.drop (2 * k + 2 * m)).toArray, ?_, ⟨C.take (2 * k) ++ rpt m x ++ C.drop (2 * k + 2 * m), ?_, ?_, ?_⟩, fun w0 hb hlt => below_setRow hb hlt _⟩
    · cases hq : Tryd.prog.info? 131 with
      | none => have := info_span; rw [hq] at this; cases this
      | some i =>
        have hi : i.size = 2 := by have := info_span; rw [hq] at this; simp at this; exact this.2.1
        rw [rpt_len] at hl
        simp [Builtin.copy_, run_underlying Tryd.underlying128, Builtin.lenOf, Builtin.firstCells, sizeOf, typeInfo, hq, hi, hm, Nat.mul_comm m 2, hl, hst]
    · rw [setRow_heap _ _ _ _ _ _ hg]
    · rw [List.length_append, List.length_append, List.length_take, rpt_len, List.length_drop]
      omega
    · rw [ht, ← rpt_add, List.take_append_of_le_length (by rw [rpt_len]; omega), List.take_of_length_le (by rw [rpt_len]; omega)]
set_option maxHeartbeats 400000 in
set_option maxRecDepth 100000 in
theorem repeat_any (x : Int × Int) (n : Nat) (hn : n ≤ 1000) (b : Nat) (w : World) (hb : w.heap[b]? = some (.cells #[.int .i64 x.1, .int .i64 x.2] 131 (0, 0))) :
    Calls Tryd.prog 86 #[.slice (some ⟨b, 0, none⟩) 1 1, .int .i64 n] w fun e w' => Bel w w' ∧ ∃ g, e = .returned (.slice (some ⟨g, 0, none⟩) n n) ∧ Rep w' g n n x := by
  have HB := Lib.hid hb
  have c0 : w.cell? ⟨b, 0, none⟩ = some (.int .i64 x.1) := by rw [heap_cell hb]; rfl
  have c1 : w.cell? ⟨b, 1, none⟩ = some (.int .i64 x.2) := by rw [heap_cell hb]; rfl
  obtain ⟨i0, hi, hz0, hz1, hz2⟩ := info_parts info_span
  have HMUL : ∀ V, Hid (Calls Tryd.prog 107 #[.int .u64 1, .int .u64 n] V fun e w' => e = .returned (.tuple #[.int .u64 0, .int .u64 n]) ∧ w' = V) := fun V => by
    have h := Tryd.bits_Mul 1 n (by omega) (by omega) V
    rw [Nat.one_mul, Nat.div_eq_of_lt (by omega), Nat.mod_eq_of_lt (by omega)] at h
    exact h
  clear hb
  go_enter Tryd.func86, Tryd.ntmps86
  go_upto_region 7 with (first
    | (go_at_call 107; (with_reducible refine ((HMUL _).out).mono ?_); rintro e w2 ⟨rfl, hw2⟩; obtain rfl := hw2.symm)
    | (refine wpList_make_full _ rfl _ _ 128 rfl w.heap.size 131 i0 _ 2 Tryd.underlying128 hi hz0 hz1 .i64 .i64 _ _ n rfl rfl rfl rfl (by rw [hz2]; omega) (by unfold maxLen; omega) (Nat.le_refl _) ?_; intro w3 hown3 hg3))
  have hb3 : Bel w w3 := (Below.refl _ _).grown hg3 (Nat.le_refl _) (fun k hk => by cases hk)
  obtain ⟨g, hg⟩ : ∃ g, w.heap.size = g := ⟨_, rfl⟩
  have HG : Hid (w.heap.size ≤ g) := Nat.le_of_eq hg
  have hR3 : Rep w3 g n 0 x := by
    obtain ⟨_, h0 | ⟨g2, cap, cur, hv, _, hgc, _, _, hs, _⟩⟩ := hown3
    · cases h0.1
    · simp only [Value.slice.injEq, Option.some.injEq, Addr.mk.injEq] at hv
      obtain ⟨⟨rfl, _⟩, _, rfl⟩ := hv
      exact ⟨cur.toList, by rw [← hg]; simpa using hgc, by simp [hs]; omega, by simp [rpt]⟩
  rw [hg]
  clear hown3 hg3 hg
  obtain ⟨m, hm⟩ : ∃ m, Nat.min 1 n = m := ⟨_, rfl⟩
  have hm1 : m ≤ 1 ∧ m ≤ n ∧ (n = 0 ∨ m = 1) := by
    have h1 := Nat.min_le_left 1 n
    have h2 := Nat.min_le_right 1 n
    rw [show min 1 n = Nat.min 1 n from rfl, hm] at h1 h2
    refine ⟨h1, h2, ?_⟩
    rcases Nat.eq_zero_or_pos n with h | h
    · exact .inl h
    · right; rw [← hm]; exact Nat.min_eq_left h
  obtain ⟨w4, hr4, hR4, hB4⟩ := run_copy_span w3 3 g n 0 m x hR3 (some ⟨g, 0, none⟩) n n (fun _ => rfl) ⟨b, 0, none⟩ 1 1 hm (by omega) (fun j u hj => by
    have hc := rpt_take 1 m x hm1.1
    rw [← hc, List.getElem?_take] at hj
    split at hj
    · have hj2 : j = 0 ∨ j = 1 := by
        have := (List.getElem?_eq_some_iff.1 hj).1
        simp [rpt] at this
        omega
      rw [Addr.add_lit]
      rcases hj2 with rfl | rfl
      · simp [rpt] at hj; subst hj; exact hb3.cell c0
      · simp [rpt] at hj; subst hj; exact hb3.cell c1
    · cases hj)
  rw [Nat.zero_add] at hR4
  have HR4 := Lib.hid hR4
  have HB4 := Lib.hid (hB4 w hb3 HG.out)
  unfold goInt at hr4
  clear hR3 hR4 hB4 hm c0 c1 hb3 HMUL
  go_wp2_with (first
    | (at_builtin; (refine wpList_copy_run2 rfl _ _ _ _ rfl _ _ rfl rfl hr4 ?_)))
  clear hr4
  go_loopg [8] n (fun gf s8 wx => ∃ k : Nat, s8 = .int .i64 k ∧ k ≤ n ∧ n ≤ k + gf ∧ (0 < k ∨ n = 0) ∧ Rep wx g n k x ∧ Bel w wx)
  case atStart => exact ⟨m, rfl, by omega, by omega, by omega, HR4.out, HB4.out⟩
  case round =>
    obtain ⟨k, rfl, hkn, hkg, hk0, hR, hbl⟩ := hrel
    by_cases hk : k < n
    · obtain ⟨gk', rfl⟩ : ∃ g, gk = g + 1 := ⟨gk - 1, by omega⟩
      obtain ⟨m2, hm2⟩ : ∃ m2, Nat.min k (n - k) = m2 := ⟨_, rfl⟩
      have hmm : 0 < m2 ∧ k + m2 ≤ n ∧ m2 ≤ k := by
        have h1 := Nat.min_le_left k (n - k)
        have h2 := Nat.min_le_right k (n - k)
        have h3 : 0 < min k (n - k) := by rw [Nat.lt_min]; omega
        rw [show min k (n - k) = Nat.min k (n - k) from rfl, hm2] at h1 h2 h3
        omega
      obtain ⟨w5, hr5, hR5, hB5⟩ := run_copy_span wr.drew 3 g n k m2 x hR (some ⟨g, k * 2, none⟩) (n - k) (n - k) (fun _ => by rw [Nat.mul_comm]) ⟨g, 0, none⟩ k n hm2 hmm.2.1 (fun j u hj => by
        obtain ⟨C, hgC, hCl, hCt⟩ := hR
        rw [Addr.add_lit, Nat.zero_add]
        have e : (rpt k x)[j]? = some u := by
          rw [← rpt_take k m2 x hmm.2.2, List.getElem?_take] at hj
          split at hj
          · exact hj
          · cases hj
        rw [← hCt, List.getElem?_take] at e
        split at e
        · show wr.cell? _ = _
          rw [heap_cell hgC]
          simpa using e
        · cases e)
      have HR5 := Lib.hid hR5
      have HB5 := Lib.hid (hB5 w hbl.drew HG.out)
      unfold goInt at hr5
      clear hR hbl hR5 hB5 hm2 HR4 HB4
      go_upto_region 9 with fail
      have hne : ¬ n = k := by omega
      have hle : k ≤ n := hkn
      have hwr : IntKind.i64.wrap ((k : Int) + (m2 : Int)) = ((k + m2 : Nat) : Int) := by rw [IntWalk.i64_in _ (by omega)]; omega
      go_region_law (first | (refine step_copy_run2 (by rfl) (.tmp 41) (.tmp 44) 128 128 (by rfl) _ _ ?_ ?_ ?_ ?_))
      clear hr5
      go_wp2
      go_roundg gk'
      case measure => omega
      case rel => exact ⟨k + m2, rfl, by omega, by omega, by omega, HR5.out, HB5.out⟩
    · obtain rfl : k = n := by omega
      have HR := Lib.hid hR
      have HBL := Lib.hid hbl
      clear hR hbl
      go_wp2
      go_ret
      exact ⟨HBL.out, g, rfl, HR.out⟩
end Go.Proofs.YtefajplbgmikdaaDoor

/-
  The walk of spans.
-/
namespace Go.Proofs.YtefajplbgmikdaaDoor
open Go.RowKit

/-- A row of spans that can be read. -/
def SpRow (w : World) (v : Value) (l : List (Int × Int)) : Prop :=
  ∃ ao c, v = .slice ao l.length c ∧ l.length ≤ c ∧ (l ≠ [] → ∃ g, ao = some ⟨g, 0, none⟩ ∧ ∃ cs : Array Value, w.heap[g]? = some (.cells cs 131 (0, 0)) ∧ ∀ (j : Nat) (x : Int × Int), l[j]? = some x → cs[j * 2]? = some (.int .i64 x.1) ∧ cs[j * 2 + 1]? = some (.int .i64 x.2))
theorem SpRow.bel {w w' : World} {v : Value} {l : List (Int × Int)} (h : SpRow w v l) (hb : Bel w w') : SpRow w' v l := by
  obtain ⟨ao, c, h1, h2, h3⟩ := h
  exact ⟨ao, c, h1, h2, fun hne => by
    obtain ⟨g, h4, cs, h5, h6⟩ := h3 hne
    exact ⟨g, h4, cs, hb.heap h5, h6⟩⟩
theorem SpRow.nil (w : World) : SpRow w (.slice none 0 0) [] := ⟨none, 0, rfl, Nat.le_refl _, fun h => absurd rfl h⟩
def spC (x : Int × Int) : List Value := [.int .i64 x.1, .int .i64 x.2]
theorem sp_get : ∀ (l : List (Int × Int)) (j : Nat) (x : Int × Int), l[j]? = some x → (l.flatMap spC)[j * 2]? = some (.int .i64 x.1) ∧ (l.flatMap spC)[j * 2 + 1]? = some (.int .i64 x.2)
  | [], j, x, h => by simp at h
  | y :: l, 0, x, h => by
    simp at h
    subst h
    exact ⟨rfl, rfl⟩
  | y :: l, j + 1, x, h => by
    have := sp_get l j x (by simpa using h)
    rw [List.flatMap_cons, show (j + 1) * 2 = j * 2 + 1 + 1 by omega]
    exact this
theorem SpRow.lit {w : World} {g : Nat} {cs : Array Value} {l : List (Int × Int)} (h : w.heap[g]? = some (.cells cs 131 (0, 0))) (hcs : cs.toList = l.flatMap spC) : SpRow w (.slice (some ⟨g, 0, none⟩) l.length l.length) l :=
  ⟨some ⟨g, 0, none⟩, l.length, rfl, Nat.le_refl _, fun _ => ⟨g, rfl, cs, h, fun j x hj => by
    have := sp_get l j x hj
    rw [← hcs] at this
    simpa using this⟩⟩
theorem SpRow.rep {w : World} {g n : Nat} {x : Int × Int} (h : Rep w g n n x) : SpRow w (.slice (some ⟨g, 0, none⟩) n n) (List.replicate n x) := by
  obtain ⟨C, h1, h2, h3⟩ := h
  have hC : C = rpt n x := by rw [← h3, List.take_of_length_le (by omega)]
  have hr : (List.replicate n x).flatMap spC = rpt n x := by simp [rpt, List.flatMap, spC]
  have := SpRow.lit (l := List.replicate n x) h1 (by rw [hr, hC])
  simpa using this
theorem run_insert {P : Program} {w : World} {t kT eT : TypeId} {r : Nat} {es : Array MapEntry} {clock : Nat} {kk : Int} {u : Value} (hu : P.underlying t = some (.map kT eT)) (hk : P.underlying kT = some (.int .i64)) (hb : w.heap[r]? = some (.map es clock))
    (hn : Instr.findNow (.int .i64) (.int .i64 kk) es.toList 0 = some none) :
    (Instr.mapUpdate t (.map (some r)) (.int .i64 kk) u).run P w = .ok () { w with heap := w.heap.setIfInBounds r (.map (es.push { key := .int .i64 kk, val := u, born := clock }) (clock + 1)) } := by
  unfold Instr.mapUpdate
  simp only [Sem.run_bind, run_underlying hu, Result.andThen, MapKept.run_getObj_map hb, MapKept.run_checkKey hk (show MapKept.IsKey (.int .i64) (.int .i64 kk) by simp [MapKept.IsKey]) false 9999, MapKept.run_findKey hk hn]
  exact MapKept.run_setObj_map _ hb
theorem wpList_insert {P : Program} {ops : Array Oper} {rest : List Oper} {o : Oper} {a : Act} {w : World} {Q : Exit → Act → World → Prop} (hg : o.guard = none) (m x v : Operand) (t kT eT : TypeId) (ho : o.op = .insert t m x v)
    (hu : P.underlying t = some (.map kT eT)) (hk : P.underlying kT = some (.int .i64)) (r : Nat) (es : Array MapEntry) (clock : Nat) (hm : a.eval m = .map (some r)) (kk : Int) (hx : a.eval x = .int .i64 kk) (u : Value) (hv : a.eval v = u)
    (hb : w.heap[r]? = some (.map es clock)) (hn : Instr.findNow (.int .i64) (.int .i64 kk) es.toList 0 = some none)
    (h : ∀ w', w'.heap[r]? = some (.map (es.push { key := .int .i64 kk, val := u, born := clock }) (clock + 1)) → w.grownBy w' (some r) → wpList P ops Q rest (a.put o.dst undef) w') : wpList P ops Q (o :: rest) a w := by
  have hlt := heap_lt hb
  refine wpList_unit hg { w with heap := w.heap.setIfInBounds r (.map (es.push { key := .int .i64 kk, val := u, born := clock }) (clock + 1)) } ?_ (h _ ?_ ⟨rfl, rfl, rfl, by simp, fun k _ hne => ?_⟩)
  · unfold execOp
    simp only [ho, hm, hx, hv, Sem.run_bind, run_insert hu hk hb hn, Result.andThen]
    rfl
  · simp [hlt]
  · have : r ≠ k := fun e => hne (by rw [e])
    simp [this]
theorem run_look {P : Program} {w : World} {t kT eT : TypeId} {r : Nat} {es : Array MapEntry} {clock : Nat} {kk : Int} {i : Nat} {u : Value} (hu : P.underlying t = some (.map kT eT)) (hk : P.underlying kT = some (.int .i64)) (hb : w.heap[r]? = some (.map es clock))
    (hn : Instr.findNow (.int .i64) (.int .i64 kk) es.toList 0 = some (some (i, u))) : (Instr.lookup t (.map (some r)) (.int .i64 kk) false).run P w = .ok u w := by
  unfold Instr.lookup
  simp only [Sem.run_bind, run_underlying hu, Result.andThen, MapKept.run_getObj_map hb, Sem.run_pure, MapKept.run_checkKey hk (show MapKept.IsKey (.int .i64) (.int .i64 kk) by simp [MapKept.IsKey]) _ 9999, MapKept.run_findKey hk hn]
  rfl
theorem run_look_none {P : Program} {w : World} {t kT eT : TypeId} {r : Nat} {es : Array MapEntry} {clock : Nat} {kk : Int} {u : Value} (hu : P.underlying t = some (.map kT eT)) (hk : P.underlying kT = some (.int .i64)) (hb : w.heap[r]? = some (.map es clock))
    (hn : Instr.findNow (.int .i64) (.int .i64 kk) es.toList 0 = some none) (hz : (zeroValue eT).run P w = .ok u w) : (Instr.lookup t (.map (some r)) (.int .i64 kk) false).run P w = .ok u w := by
  unfold Instr.lookup
  simp only [Sem.run_bind, run_underlying hu, Result.andThen, MapKept.run_getObj_map hb, Sem.run_pure, MapKept.run_checkKey hk (show MapKept.IsKey (.int .i64) (.int .i64 kk) by simp [MapKept.IsKey]) _ 9999, MapKept.run_findKey hk hn, hz]
  rfl
theorem wpList_look {P : Program} {ops : Array Oper} {rest : List Oper} {o : Oper} {a : Act} {w : World} {Q : Exit → Act → World → Prop} (hg : o.guard = none) (m x : Operand) (t : TypeId) (ho : o.op = .lookup t m x false) (v mv xv : Value)
    (hm : a.eval m = mv) (hx : a.eval x = xv) (hr : (Instr.lookup t mv xv false).run P w = .ok v w) (h : wpList P ops Q rest (a.put o.dst v) w) : wpList P ops Q (o :: rest) a w := by
  refine wpList_value hg v w ?_ h
  unfold execOp
  simp only [ho, hm, hx, Sem.run_bind, hr, Result.andThen]
  rfl
theorem neq_none (w : World) : Sem.run Tryd.prog (binOp .neq 151 .nilFunc .nilFunc) w = .ok (.bool false) w := by kernel_rfl
theorem neq_some (f : Nat) (c : Array Value) (w : World) : Sem.run Tryd.prog (binOp .neq 151 (.func (.func f) #[] c) .nilFunc) w = .ok (.bool true) w := by kernel_rfl
theorem sp1_any (w : World) : Calls Tryd.prog 84 #[] w fun e w' => Bel w w' ∧ ∃ v, e = .returned v ∧ SpRow w' v [(1, 8192), (1, 8192), (0, 255), (0, 255), (0, 255)] := by
  go_enter Tryd.func84, Tryd.ntmps84
  go_wp2
  go_ret
  exact ⟨(Bel.refl w).alloc _, _, rfl, SpRow.lit (l := [(1, 8192), (1, 8192), (0, 255), (0, 255), (0, 255)]) (heap_alloc_new _ _) rfl⟩
theorem sp5_any (w : World) : Calls Tryd.prog 87 #[] w fun e w' => Bel w w' ∧ ∃ v, e = .returned v ∧ SpRow w' v [(0, 1)] := by
  go_enter Tryd.func87, Tryd.ntmps87
  go_wp2
  go_ret
  exact ⟨(Bel.refl w).alloc _, _, rfl, SpRow.lit (l := [(0, 1)]) (heap_alloc_new _ _) rfl⟩
theorem sp7_any (w : World) : Calls Tryd.prog 89 #[] w fun e w' => Bel w w' ∧ ∃ v, e = .returned v ∧ SpRow w' v [(1, 1048576)] := by
  go_enter Tryd.func89, Tryd.ntmps89
  go_wp2
  go_ret
  exact ⟨(Bel.refl w).alloc _, _, rfl, SpRow.lit (l := [(1, 1048576)]) (heap_alloc_new _ _) rfl⟩
theorem sp8_any (w : World) : Calls Tryd.prog 90 #[] w fun e w' => Bel w w' ∧ ∃ v, e = .returned v ∧ SpRow w' v [(-2147483647, 2147483647)] := by
  go_enter Tryd.func90, Tryd.ntmps90
  go_wp2
  go_ret
  exact ⟨(Bel.refl w).alloc _, _, rfl, SpRow.lit (l := [(-2147483647, 2147483647)]) (heap_alloc_new _ _) rfl⟩
theorem sp9_any (w : World) : Calls Tryd.prog 91 #[] w fun e w' => Bel w w' ∧ ∃ v, e = .returned v ∧ SpRow w' v [(0, 2)] := by
  go_enter Tryd.func91, Tryd.ntmps91
  go_wp2
  go_ret
  exact ⟨(Bel.refl w).alloc _, _, rfl, SpRow.lit (l := [(0, 2)]) (heap_alloc_new _ _) rfl⟩
theorem sp10_any (w : World) : Calls Tryd.prog 92 #[] w fun e w' => Bel w w' ∧ ∃ v, e = .returned v ∧ SpRow w' v [(0, 2)] := by
  go_enter Tryd.func92, Tryd.ntmps92
  go_wp2
  go_ret
  exact ⟨(Bel.refl w).alloc _, _, rfl, SpRow.lit (l := [(0, 2)]) (heap_alloc_new _ _) rfl⟩
theorem sp11_any (w : World) : Calls Tryd.prog 93 #[] w fun e w' => Bel w w' ∧ ∃ v, e = .returned v ∧ SpRow w' v [(64, 4096)] := by
  go_enter Tryd.func93, Tryd.ntmps93
  go_wp2
  go_ret
  exact ⟨(Bel.refl w).alloc _, _, rfl, SpRow.lit (l := [(64, 4096)]) (heap_alloc_new _ _) rfl⟩
theorem sp2_any (w : World) : Calls Tryd.prog 85 #[] w fun e w' => Bel w w' ∧ ∃ v, e = .returned v ∧ SpRow w' v (List.replicate 6 (-2147483647, 2147483647)) := by
  have hr : Hid (Calls Tryd.prog 86 #[.slice (some ⟨w.heap.size, 0, none⟩) 1 1, .int .i64 6] (w.alloc (.cells #[.int .i64 (-2147483647), .int .i64 (2147483647)] 131)) fun e w' => Bel (w.alloc (.cells #[.int .i64 (-2147483647), .int .i64 (2147483647)] 131)) w' ∧ ∃ g, e = .returned (.slice (some ⟨g, 0, none⟩) 6 6) ∧ Rep w' g 6 6 (-2147483647, 2147483647)) := repeat_any (-2147483647, 2147483647) 6 (by omega) w.heap.size _ (heap_alloc_new _ _)
  go_enter Tryd.func85, Tryd.ntmps85
  go_wp2_with (first
    | (go_at_call 86; (with_reducible refine hr.out.mono ?_); rintro e w2 ⟨hb2, g, rfl, hrep⟩; have HB2 := Lib.hid hb2; have HR2 := Lib.hid hrep; clear hb2 hrep))
  go_ret
  exact ⟨((Bel.refl w).alloc _).trans HB2.out, _, rfl, SpRow.rep HR2.out⟩
theorem sp6_any (w : World) : Calls Tryd.prog 88 #[] w fun e w' => Bel w w' ∧ ∃ v, e = .returned v ∧ SpRow w' v (List.replicate 4 (0, 255)) := by
  have hr : Hid (Calls Tryd.prog 86 #[.slice (some ⟨w.heap.size, 0, none⟩) 1 1, .int .i64 4] (w.alloc (.cells #[.int .i64 (0), .int .i64 (255)] 131)) fun e w' => Bel (w.alloc (.cells #[.int .i64 (0), .int .i64 (255)] 131)) w' ∧ ∃ g, e = .returned (.slice (some ⟨g, 0, none⟩) 4 4) ∧ Rep w' g 4 4 (0, 255)) := repeat_any (0, 255) 4 (by omega) w.heap.size _ (heap_alloc_new _ _)
  go_enter Tryd.func88, Tryd.ntmps88
  go_wp2_with (first
    | (go_at_call 86; (with_reducible refine hr.out.mono ?_); rintro e w2 ⟨hb2, g, rfl, hrep⟩; have HB2 := Lib.hid hb2; have HR2 := Lib.hid hrep; clear hb2 hrep))
  go_ret
  exact ⟨((Bel.refl w).alloc _).trans HB2.out, _, rfl, SpRow.rep HR2.out⟩
theorem sp12_any (cnt : Nat) (hcnt : cnt ≤ 1000) (B : Nat) (w : World) (hB : w.heap[B]? = some (.cells #[.int .i64 cnt] 3 (0, 0))) : Calls Tryd.prog 94 #[.pointer (some ⟨B, 0, none⟩)] w fun e w' => Bel w w' ∧ ∃ v, e = .returned v ∧ SpRow w' v (List.replicate cnt (0, 2147483647)) := by
  have hr : Hid (Calls Tryd.prog 86 #[.slice (some ⟨w.heap.size, 0, none⟩) 1 1, .int .i64 cnt] (w.alloc (.cells #[.int .i64 0, .int .i64 2147483647] 131)) fun e w' => Bel (w.alloc (.cells #[.int .i64 0, .int .i64 2147483647] 131)) w' ∧ ∃ g, e = .returned (.slice (some ⟨g, 0, none⟩) cnt cnt) ∧ Rep w' g cnt cnt (0, 2147483647)) := repeat_any (0, 2147483647) cnt hcnt w.heap.size _ (heap_alloc_new _ _)
  have c0 : ∀ o, (w.alloc o).cell? ⟨B, 0, none⟩ = some (.int .i64 cnt) := fun o => by rw [heap_cell (heap_push_of hB o)]; rfl
  go_enter Tryd.func94, Tryd.ntmps94
  go_wp2_with (first
    | (go_at_call 86; (with_reducible refine hr.out.mono ?_); rintro e w2 ⟨hb2, g, rfl, hrep⟩; have HB2 := Lib.hid hb2; have HR2 := Lib.hid hrep; clear hb2 hrep))
  go_ret
  exact ⟨((Bel.refl w).alloc _).trans HB2.out, _, rfl, SpRow.rep HR2.out⟩
def rangesE (B : Nat) : Array MapEntry := (((((((((((#[] : Array MapEntry).push ⟨.int .i64 1, .func (.func 84) #[] #[], 0⟩).push ⟨.int .i64 2, .func (.func 85) #[] #[], 1⟩).push ⟨.int .i64 5, .func (.func 87) #[] #[], 2⟩).push ⟨.int .i64 6, .func (.func 88) #[] #[], 3⟩).push ⟨.int .i64 7, .func (.func 89) #[] #[], 4⟩).push ⟨.int .i64 8, .func (.func 90) #[] #[], 5⟩).push ⟨.int .i64 9, .func (.func 91) #[] #[], 6⟩).push ⟨.int .i64 10, .func (.func 92) #[] #[], 7⟩).push ⟨.int .i64 11, .func (.func 93) #[] #[], 8⟩).push ⟨.int .i64 12, .func (.func 94) #[] #[.pointer (some ⟨B, 0, none⟩)], 9⟩)
set_option maxHeartbeats 400000 in
set_option maxRecDepth 100000 in
theorem spans_any (k : Nat) (hk : k ≤ 15) (cnt : Nat) (hcnt : cnt ≤ 1000) (w : World) : Calls Tryd.prog 66 #[.int .i64 k, .int .i64 cnt] w fun e w' => Bel w w' ∧ ∃ v, e = .returned v ∧ SpRow w' v (spansK k cnt) := by
  go_enter Tryd.func66, Tryd.ntmps66
  go_upto_region 1 with fail
  go_cut [5] from 7 to 16 (fun s5 wx => ∃ M, s5 = .map (some M) ∧ wx.heap[M]? = some (.map (rangesE w.heap.size) 10) ∧ wx.heap[w.heap.size]? = some (.cells #[.int .i64 cnt] 3 (0, 0)) ∧ Bel w wx)
  case first =>
    refine wp_region_lit ?_
    obtain ⟨W, hW⟩ : ∃ W, w.alloc (.cells #[.int .i64 cnt] 3) = W := ⟨_, rfl⟩
    have hbox : W.heap[w.heap.size]? = some (.cells #[.int .i64 cnt] 3 (0, 0)) := hW ▸ heap_alloc_new _ _
    have hbw : Bel w W := hW ▸ (Bel.refl w).alloc _
    rw [hW]
    refine wpList_value rfl (.map (some W.heap.size)) (W.alloc (.map #[] 0)) (by kernel_rfl) ?_
    have hsz := hbw.size
    obtain ⟨M, hM⟩ : ∃ M, W.heap.size = M := ⟨_, rfl⟩
    have h0 : (W.alloc (.map #[] 0)).heap[W.heap.size]? = some (.map #[] 0) := heap_alloc_new _ _
    have hb0 : Bel w (W.alloc (.map #[] 0)) := hbw.alloc _
    have hx0 := heap_push_of hbox (.map #[] 0)
    have hlt : w.heap.size < M := hM ▸ heap_lt hbox
    rw [hM] at h0 ⊢
    generalize W.alloc (.map #[] 0) = W0 at h0 hb0 hx0 ⊢
    refine wpList_insert rfl (.tmp 7) (.const (.int .i64 1)) (.func 84) 153 3 151 rfl Tryd.underlying153 Tryd.underlying3 M _ _ (by kernel_rfl) 1 (by kernel_rfl) (.func (.func 84) #[] #[]) (by kernel_rfl) h0 (by rfl) ?_
    intro W1 h1 g1
    refine wpList_insert rfl (.tmp 7) (.const (.int .i64 2)) (.func 85) 153 3 151 rfl Tryd.underlying153 Tryd.underlying3 M _ _ (by kernel_rfl) 2 (by kernel_rfl) (.func (.func 85) #[] #[]) (by kernel_rfl) h1 (by rfl) ?_
    intro W2 h2 g2
    refine wpList_insert rfl (.tmp 7) (.const (.int .i64 5)) (.func 87) 153 3 151 rfl Tryd.underlying153 Tryd.underlying3 M _ _ (by kernel_rfl) 5 (by kernel_rfl) (.func (.func 87) #[] #[]) (by kernel_rfl) h2 (by rfl) ?_
    intro W3 h3 g3
    refine wpList_insert rfl (.tmp 7) (.const (.int .i64 6)) (.func 88) 153 3 151 rfl Tryd.underlying153 Tryd.underlying3 M _ _ (by kernel_rfl) 6 (by kernel_rfl) (.func (.func 88) #[] #[]) (by kernel_rfl) h3 (by rfl) ?_
    intro W4 h4 g4
    refine wpList_insert rfl (.tmp 7) (.const (.int .i64 7)) (.func 89) 153 3 151 rfl Tryd.underlying153 Tryd.underlying3 M _ _ (by kernel_rfl) 7 (by kernel_rfl) (.func (.func 89) #[] #[]) (by kernel_rfl) h4 (by rfl) ?_
    intro W5 h5 g5
    refine wpList_insert rfl (.tmp 7) (.const (.int .i64 8)) (.func 90) 153 3 151 rfl Tryd.underlying153 Tryd.underlying3 M _ _ (by kernel_rfl) 8 (by kernel_rfl) (.func (.func 90) #[] #[]) (by kernel_rfl) h5 (by rfl) ?_
    intro W6 h6 g6
    refine wpList_insert rfl (.tmp 7) (.const (.int .i64 9)) (.func 91) 153 3 151 rfl Tryd.underlying153 Tryd.underlying3 M _ _ (by kernel_rfl) 9 (by kernel_rfl) (.func (.func 91) #[] #[]) (by kernel_rfl) h6 (by rfl) ?_
    intro W7 h7 g7
    refine wpList_insert rfl (.tmp 7) (.const (.int .i64 10)) (.func 92) 153 3 151 rfl Tryd.underlying153 Tryd.underlying3 M _ _ (by kernel_rfl) 10 (by kernel_rfl) (.func (.func 92) #[] #[]) (by kernel_rfl) h7 (by rfl) ?_
    intro W8 h8 g8
    refine wpList_insert rfl (.tmp 7) (.const (.int .i64 11)) (.func 93) 153 3 151 rfl Tryd.underlying153 Tryd.underlying3 M _ _ (by kernel_rfl) 11 (by kernel_rfl) (.func (.func 93) #[] #[]) (by kernel_rfl) h8 (by rfl) ?_
    intro W9 h9 g9
    refine wpList_value rfl (.func (.func 94) #[] #[.pointer (some ⟨w.heap.size, 0, none⟩)]) W9 (by kernel_rfl) ?_
    refine wpList_insert rfl (.tmp 7) (.const (.int .i64 12)) (.tmp 8) 153 3 151 rfl Tryd.underlying153 Tryd.underlying3 M _ _ (by kernel_rfl) 12 (by kernel_rfl) (.func (.func 94) #[] #[.pointer (some ⟨w.heap.size, 0, none⟩)]) (by kernel_rfl) h9 (by rfl) ?_
    intro W10 h10 g10
    have hg := grown_trans g1 (grown_trans g2 (grown_trans g3 (grown_trans g4 (grown_trans g5 (grown_trans g6 (grown_trans g7 (grown_trans g8 (grown_trans g9 g10))))))))
    refine wpList_value rfl (.map (some M)) W10 (by kernel_rfl) ?_
    refine wpList_value rfl (.map (some M)) W10 (by kernel_rfl) ?_
    rw [wpList]
    change Exit.then _ _ Exit.normal { tmps := #[.int .i64 k, .int .i64 cnt, undef, .pointer (some ⟨w.heap.size, 0, none⟩), .slice none 0 0, .map (some M), undef, .map (some M), (.func (.func 94) #[] #[.pointer (some ⟨w.heap.size, 0, none⟩)]), .map (some M), undef, undef, undef, undef, undef, undef, undef], defers := [] } W10
    go_wp2
    go_meet
    refine ⟨M, rfl, h10, ?_, But.bel hb0 hg (fun k hk => by cases hk; omega)⟩
    rw [hg.block _ (heap_lt hx0) (fun e => by simp at e; omega)]
    exact hx0
  case rest =>
  obtain ⟨M, rfl, hm, hbx, hbl⟩ := hcut
  have HBL := Lib.hid hbl
  have HM := Lib.hid hm
  have HBX := Lib.hid hbx
  clear hm hbx hbl
  have hn1 := neq_none
  have hn2 := neq_some
  rcases (by omega : k = 0 ∨ k = 1 ∨ k = 2 ∨ k = 3 ∨ k = 4 ∨ k = 5 ∨ k = 6 ∨ k = 7 ∨ k = 8 ∨ k = 9 ∨ k = 10 ∨ k = 11 ∨ k = 12 ∨ k = 13 ∨ k = 14 ∨ k = 15) with rfl | rfl | rfl | rfl | rfl | rfl | rfl | rfl | rfl | rfl | rfl | rfl | rfl | rfl | rfl | rfl
  · have HL : Hid ((Instr.lookup 153 (.map (some M)) (.int .i64 (0 : Nat)) false).run Tryd.prog wc = .ok .nilFunc wc) := run_look_none Tryd.underlying153 Tryd.underlying3 HM.out (by rfl) (by kernel_rfl)
    go_wp2_with (first
      | (refine wpList_look (by rfl) (.tmp 10) (.tmp 11) 153 (by rfl) _ _ _ (by rfl) (by rfl) HL.out ?_))
    go_ret
    exact ⟨HBL.out, _, rfl, SpRow.nil _⟩
  · have HL : Hid ((Instr.lookup 153 (.map (some M)) (.int .i64 (1 : Nat)) false).run Tryd.prog wc = .ok (.func (.func 84) #[] #[]) wc) := run_look (i := 0) Tryd.underlying153 Tryd.underlying3 HM.out (by rfl)
    go_wp2_with (first
      | (refine wpList_look (by rfl) (.tmp 10) (.tmp 11) 153 (by rfl) _ _ _ (by rfl) (by rfl) HL.out ?_)
      | (go_at_call 84; (with_reducible refine (sp1_any _).mono ?_); rintro e w2 ⟨hb2, v, rfl, hsp⟩; have HB2 := Lib.hid hb2; have HS2 := Lib.hid hsp; clear hb2 hsp))
    go_ret
    exact ⟨HBL.out.trans HB2.out, _, rfl, HS2.out⟩
  · have HL : Hid ((Instr.lookup 153 (.map (some M)) (.int .i64 (2 : Nat)) false).run Tryd.prog wc = .ok (.func (.func 85) #[] #[]) wc) := run_look (i := 1) Tryd.underlying153 Tryd.underlying3 HM.out (by rfl)
    go_wp2_with (first
      | (refine wpList_look (by rfl) (.tmp 10) (.tmp 11) 153 (by rfl) _ _ _ (by rfl) (by rfl) HL.out ?_)
      | (go_at_call 85; (with_reducible refine (sp2_any _).mono ?_); rintro e w2 ⟨hb2, v, rfl, hsp⟩; have HB2 := Lib.hid hb2; have HS2 := Lib.hid hsp; clear hb2 hsp))
    go_ret
    exact ⟨HBL.out.trans HB2.out, _, rfl, HS2.out⟩
  · have HL : Hid ((Instr.lookup 153 (.map (some M)) (.int .i64 (3 : Nat)) false).run Tryd.prog wc = .ok .nilFunc wc) := run_look_none Tryd.underlying153 Tryd.underlying3 HM.out (by rfl) (by kernel_rfl)
    go_wp2_with (first
      | (refine wpList_look (by rfl) (.tmp 10) (.tmp 11) 153 (by rfl) _ _ _ (by rfl) (by rfl) HL.out ?_))
    go_ret
    exact ⟨HBL.out, _, rfl, SpRow.nil _⟩
  · have HL : Hid ((Instr.lookup 153 (.map (some M)) (.int .i64 (4 : Nat)) false).run Tryd.prog wc = .ok .nilFunc wc) := run_look_none Tryd.underlying153 Tryd.underlying3 HM.out (by rfl) (by kernel_rfl)
    go_wp2_with (first
      | (refine wpList_look (by rfl) (.tmp 10) (.tmp 11) 153 (by rfl) _ _ _ (by rfl) (by rfl) HL.out ?_))
    go_ret
    exact ⟨HBL.out, _, rfl, SpRow.nil _⟩
  · have HL : Hid ((Instr.lookup 153 (.map (some M)) (.int .i64 (5 : Nat)) false).run Tryd.prog wc = .ok (.func (.func 87) #[] #[]) wc) := run_look (i := 2) Tryd.underlying153 Tryd.underlying3 HM.out (by rfl)
    go_wp2_with (first
      | (refine wpList_look (by rfl) (.tmp 10) (.tmp 11) 153 (by rfl) _ _ _ (by rfl) (by rfl) HL.out ?_)
      | (go_at_call 87; (with_reducible refine (sp5_any _).mono ?_); rintro e w2 ⟨hb2, v, rfl, hsp⟩; have HB2 := Lib.hid hb2; have HS2 := Lib.hid hsp; clear hb2 hsp))
    go_ret
    exact ⟨HBL.out.trans HB2.out, _, rfl, HS2.out⟩
  · have HL : Hid ((Instr.lookup 153 (.map (some M)) (.int .i64 (6 : Nat)) false).run Tryd.prog wc = .ok (.func (.func 88) #[] #[]) wc) := run_look (i := 3) Tryd.underlying153 Tryd.underlying3 HM.out (by rfl)
    go_wp2_with (first
      | (refine wpList_look (by rfl) (.tmp 10) (.tmp 11) 153 (by rfl) _ _ _ (by rfl) (by rfl) HL.out ?_)
      | (go_at_call 88; (with_reducible refine (sp6_any _).mono ?_); rintro e w2 ⟨hb2, v, rfl, hsp⟩; have HB2 := Lib.hid hb2; have HS2 := Lib.hid hsp; clear hb2 hsp))
    go_ret
    exact ⟨HBL.out.trans HB2.out, _, rfl, HS2.out⟩
  · have HL : Hid ((Instr.lookup 153 (.map (some M)) (.int .i64 (7 : Nat)) false).run Tryd.prog wc = .ok (.func (.func 89) #[] #[]) wc) := run_look (i := 4) Tryd.underlying153 Tryd.underlying3 HM.out (by rfl)
    go_wp2_with (first
      | (refine wpList_look (by rfl) (.tmp 10) (.tmp 11) 153 (by rfl) _ _ _ (by rfl) (by rfl) HL.out ?_)
      | (go_at_call 89; (with_reducible refine (sp7_any _).mono ?_); rintro e w2 ⟨hb2, v, rfl, hsp⟩; have HB2 := Lib.hid hb2; have HS2 := Lib.hid hsp; clear hb2 hsp))
    go_ret
    exact ⟨HBL.out.trans HB2.out, _, rfl, HS2.out⟩
  · have HL : Hid ((Instr.lookup 153 (.map (some M)) (.int .i64 (8 : Nat)) false).run Tryd.prog wc = .ok (.func (.func 90) #[] #[]) wc) := run_look (i := 5) Tryd.underlying153 Tryd.underlying3 HM.out (by rfl)
    go_wp2_with (first
      | (refine wpList_look (by rfl) (.tmp 10) (.tmp 11) 153 (by rfl) _ _ _ (by rfl) (by rfl) HL.out ?_)
      | (go_at_call 90; (with_reducible refine (sp8_any _).mono ?_); rintro e w2 ⟨hb2, v, rfl, hsp⟩; have HB2 := Lib.hid hb2; have HS2 := Lib.hid hsp; clear hb2 hsp))
    go_ret
    exact ⟨HBL.out.trans HB2.out, _, rfl, HS2.out⟩
  · have HL : Hid ((Instr.lookup 153 (.map (some M)) (.int .i64 (9 : Nat)) false).run Tryd.prog wc = .ok (.func (.func 91) #[] #[]) wc) := run_look (i := 6) Tryd.underlying153 Tryd.underlying3 HM.out (by rfl)
    go_wp2_with (first
      | (refine wpList_look (by rfl) (.tmp 10) (.tmp 11) 153 (by rfl) _ _ _ (by rfl) (by rfl) HL.out ?_)
      | (go_at_call 91; (with_reducible refine (sp9_any _).mono ?_); rintro e w2 ⟨hb2, v, rfl, hsp⟩; have HB2 := Lib.hid hb2; have HS2 := Lib.hid hsp; clear hb2 hsp))
    go_ret
    exact ⟨HBL.out.trans HB2.out, _, rfl, HS2.out⟩
  · have HL : Hid ((Instr.lookup 153 (.map (some M)) (.int .i64 (10 : Nat)) false).run Tryd.prog wc = .ok (.func (.func 92) #[] #[]) wc) := run_look (i := 7) Tryd.underlying153 Tryd.underlying3 HM.out (by rfl)
    go_wp2_with (first
      | (refine wpList_look (by rfl) (.tmp 10) (.tmp 11) 153 (by rfl) _ _ _ (by rfl) (by rfl) HL.out ?_)
      | (go_at_call 92; (with_reducible refine (sp10_any _).mono ?_); rintro e w2 ⟨hb2, v, rfl, hsp⟩; have HB2 := Lib.hid hb2; have HS2 := Lib.hid hsp; clear hb2 hsp))
    go_ret
    exact ⟨HBL.out.trans HB2.out, _, rfl, HS2.out⟩
  · have HL : Hid ((Instr.lookup 153 (.map (some M)) (.int .i64 (11 : Nat)) false).run Tryd.prog wc = .ok (.func (.func 93) #[] #[]) wc) := run_look (i := 8) Tryd.underlying153 Tryd.underlying3 HM.out (by rfl)
    go_wp2_with (first
      | (refine wpList_look (by rfl) (.tmp 10) (.tmp 11) 153 (by rfl) _ _ _ (by rfl) (by rfl) HL.out ?_)
      | (go_at_call 93; (with_reducible refine (sp11_any _).mono ?_); rintro e w2 ⟨hb2, v, rfl, hsp⟩; have HB2 := Lib.hid hb2; have HS2 := Lib.hid hsp; clear hb2 hsp))
    go_ret
    exact ⟨HBL.out.trans HB2.out, _, rfl, HS2.out⟩
  · have HL : Hid ((Instr.lookup 153 (.map (some M)) (.int .i64 (12 : Nat)) false).run Tryd.prog wc = .ok (.func (.func 94) #[] #[.pointer (some ⟨w.heap.size, 0, none⟩)]) wc) := run_look (i := 9) Tryd.underlying153 Tryd.underlying3 HM.out (by rfl)
    go_wp2_with (first
      | (refine wpList_look (by rfl) (.tmp 10) (.tmp 11) 153 (by rfl) _ _ _ (by rfl) (by rfl) HL.out ?_)
      | (go_at_call 94; (with_reducible refine (sp12_any cnt hcnt _ _ HBX.out).mono ?_); rintro e w2 ⟨hb2, v, rfl, hsp⟩; have HB2 := Lib.hid hb2; have HS2 := Lib.hid hsp; clear hb2 hsp))
    go_ret
    exact ⟨HBL.out.trans HB2.out, _, rfl, HS2.out⟩
  · have HL : Hid ((Instr.lookup 153 (.map (some M)) (.int .i64 (13 : Nat)) false).run Tryd.prog wc = .ok .nilFunc wc) := run_look_none Tryd.underlying153 Tryd.underlying3 HM.out (by rfl) (by kernel_rfl)
    go_wp2_with (first
      | (refine wpList_look (by rfl) (.tmp 10) (.tmp 11) 153 (by rfl) _ _ _ (by rfl) (by rfl) HL.out ?_))
    go_ret
    exact ⟨HBL.out, _, rfl, SpRow.nil _⟩
  · have HL : Hid ((Instr.lookup 153 (.map (some M)) (.int .i64 (14 : Nat)) false).run Tryd.prog wc = .ok .nilFunc wc) := run_look_none Tryd.underlying153 Tryd.underlying3 HM.out (by rfl) (by kernel_rfl)
    go_wp2_with (first
      | (refine wpList_look (by rfl) (.tmp 10) (.tmp 11) 153 (by rfl) _ _ _ (by rfl) (by rfl) HL.out ?_))
    go_ret
    exact ⟨HBL.out, _, rfl, SpRow.nil _⟩
  · have HL : Hid ((Instr.lookup 153 (.map (some M)) (.int .i64 (15 : Nat)) false).run Tryd.prog wc = .ok .nilFunc wc) := run_look_none Tryd.underlying153 Tryd.underlying3 HM.out (by rfl) (by kernel_rfl)
    go_wp2_with (first
      | (refine wpList_look (by rfl) (.tmp 10) (.tmp 11) 153 (by rfl) _ _ _ (by rfl) (by rfl) HL.out ?_))
    go_ret
    exact ⟨HBL.out, _, rfl, SpRow.nil _⟩
end Go.Proofs.YtefajplbgmikdaaDoor

/-
  The walk of slices.IndexFunc for the ends of lines.
-/
namespace Go.Proofs.YtefajplbgmikdaaDoor
open Go.RowKit

theorem tokEnd_any (k n p : Int) (s : ByteArray) (w : World) : Calls Tryd.prog 69 #[.agg #[.int .i64 k, .string s, .int .i64 n, .int .i64 p]] w fun e w' => e = .returned (.bool (k == 3)) ∧ Bel w w' := by
  go_enter Tryd.func69, Tryd.ntmps69
  go_wp2
  go_ret
  exact ⟨rfl, (Bel.refl w).alloc _⟩
theorem TokRow.get {w : World} {N : Nat} {lv : Value} {l : List Tok} (h : TokRow w N lv l) {k : Nat} {t : Tok} (hk : l[k]? = some t) : ∃ b o c, lv = .slice (some ⟨b, o, none⟩) l.length c ∧ l.length ≤ c ∧ b < N ∧
    w.cell? ⟨b, o + k * 4, none⟩ = some (.int .i64 t.kind) ∧ w.cell? ⟨b, o + k * 4 + 1, none⟩ = some (.string ⟨t.s.toArray⟩) ∧ w.cell? ⟨b, o + k * 4 + 2, none⟩ = some (.int .i64 t.n) ∧ w.cell? ⟨b, o + k * 4 + 3, none⟩ = some (.int .i64 t.place) := by
  obtain ⟨p, c, rfl, hl, h⟩ := h
  rcases h with rfl | ⟨b, o, rfl, hlt, hc⟩
  · simp at hk
  · have h0 := hc k t hk
    exact ⟨b, o, c, rfl, hl, hlt, by have := h0 0 _ rfl; simpa using this, h0 1 _ rfl, h0 2 _ rfl, h0 3 _ rfl⟩
def IdxN (l : List Tok) (n : Int) : Prop := (∃ a t r, l = a ++ t :: r ∧ (∀ x ∈ a, x.kind ≠ 3) ∧ t.kind = 3 ∧ n = a.length) ∨ ((∀ x ∈ l, x.kind ≠ 3) ∧ n = -1)
theorem idxFunc_any (l : List Tok) (lv : Value) (w : World) (hl : TokRow w w.heap.size lv l) (hn : l.length ≤ 1000000000) :
    Calls Tryd.prog 68 #[lv, .func (.func 69) #[] #[]] w fun e w' => ∃ n : Int, e = .returned (.int .i64 n) ∧ IdxN l n ∧ Bel w w' := by
  have HL := Lib.hid hl
  obtain ⟨lp, lc, rfl, hlc, _⟩ := hl
  go_enter Tryd.func68, Tryd.ntmps68
  go_wp2
  go_loopg [8] l.length (fun gf s8 wx => ∃ k : Nat, s8 = .int .i64 k ∧ k ≤ l.length ∧ l.length ≤ k + gf ∧ (∀ x ∈ l.take k, x.kind ≠ 3) ∧ Bel w wx)
  case atStart => exact ⟨0, rfl, Nat.zero_le _, by omega, by simp, Bel.refl w⟩
  case round =>
    obtain ⟨k, rfl, hkl, hkg, hall, hbl⟩ := hrel
    have HALL := Lib.hid hall
    have HBL := Lib.hid hbl
    clear hall hbl
    by_cases hk : k < l.length
    · obtain ⟨gk', rfl⟩ : ∃ g, gk = g + 1 := ⟨gk - 1, by omega⟩
      obtain ⟨t, ht⟩ : ∃ t, l[k]? = some t := ⟨_, List.getElem?_eq_getElem hk⟩
      obtain ⟨b, o, c, he, _, _, q0, q1, q2, q3⟩ := HL.out.get ht
      simp only [Value.slice.injEq] at he
      obtain ⟨rfl, _, rfl⟩ := he
      replace q0 := HBL.out.cell q0
      replace q1 := HBL.out.cell q1
      replace q2 := HBL.out.cell q2
      replace q3 := HBL.out.cell q3
      have HT := Lib.hid ht
      clear ht
      obtain ⟨c3, hc3⟩ : ∃ c3, (t.kind == 3) = c3 := ⟨_, rfl⟩
      have HC := Lib.hid hc3
      clear hc3
      cases c3 with
      | false =>
        go_wp2_with (first
          | (go_at_call 69; (with_reducible refine (tokEnd_any _ _ _ _ _).mono ?_); rintro e w2 ⟨rfl, hb2⟩; rw [HC.out]; have HB2 := Lib.hid hb2; clear hb2))
        go_roundg gk'
        case measure => omega
        case rel => exact ⟨k + 1, rfl, by omega, by omega, fun x hx => by
          rw [List.take_add_one, HT.out] at hx
          rcases List.mem_append.1 hx with hx | hx
          · exact HALL.out x hx
          · simp at hx; subst hx; exact beq_eq_false_iff_ne.1 HC.out, HBL.out.trans HB2.out⟩
      | true =>
        go_wp2_with (first
          | (go_at_call 69; (with_reducible refine (tokEnd_any _ _ _ _ _).mono ?_); rintro e w2 ⟨rfl, hb2⟩; rw [HC.out]; have HB2 := Lib.hid hb2; clear hb2))
        go_ret
        refine ⟨k, rfl, .inl ⟨l.take k, t, l.drop (k + 1), ?_, HALL.out, by simpa using HC.out, by simp [Nat.min_eq_left hkl]⟩, HBL.out.trans HB2.out⟩
        obtain ⟨hlt, e⟩ := List.getElem?_eq_some_iff.1 HT.out
        rw [← e, List.getElem_cons_drop, List.take_append_drop]
    · go_wp2
      go_ret
      exact ⟨-1, rfl, .inr ⟨fun x hx => HALL.out x (by rw [List.take_of_length_le (by omega)]; exact hx), rfl⟩, HBL.out⟩
end Go.Proofs.YtefajplbgmikdaaDoor

/-
  The walk of name.
-/
namespace Go.Proofs.YtefajplbgmikdaaDoor
open Go.RowKit

theorem kind_at (a b c : Nat) : ∀ k : Nat, k < 16 → ∀ w, (Instr.index 79 (.agg (kindsV a b c).toArray) (.int .i64 k)).run Tryd.prog w = .ok (.agg #[.string ⟨(nameK k).toArray⟩, .int .i64 (countC k), wordsV a b c k, .bool (pathK k), .bool (dashK k)]) w := by
  intro k hk w
  rcases (by omega : k = 0 ∨ k = 1 ∨ k = 2 ∨ k = 3 ∨ k = 4 ∨ k = 5 ∨ k = 6 ∨ k = 7 ∨ k = 8 ∨ k = 9 ∨ k = 10 ∨ k = 11 ∨ k = 12 ∨ k = 13 ∨ k = 14 ∨ k = 15) with rfl | rfl | rfl | rfl | rfl | rfl | rfl | rfl | rfl | rfl | rfl | rfl | rfl | rfl | rfl | rfl <;> kernel_rfl
theorem names_at : ∀ k : Nat, k < 16 → namesL.drop k = nameK k :: namesL.drop (k + 1) := by
  intro k hk
  rcases (by omega : k = 0 ∨ k = 1 ∨ k = 2 ∨ k = 3 ∨ k = 4 ∨ k = 5 ∨ k = 6 ∨ k = 7 ∨ k = 8 ∨ k = 9 ∨ k = 10 ∨ k = 11 ∨ k = 12 ∨ k = 13 ∨ k = 14 ∨ k = 15) with rfl | rfl | rfl | rfl | rfl | rfl | rfl | rfl | rfl | rfl | rfl | rfl | rfl | rfl | rfl | rfl <;> rfl
theorem wordsV_form (a b c k : Nat) : ∃ p n m, wordsV a b c k = .slice p n m := by
  unfold wordsV
  split
  · exact ⟨_, _, _, rfl⟩
  · split
    · exact ⟨_, _, _, rfl⟩
    · split
      · exact ⟨_, _, _, rfl⟩
      · exact ⟨_, _, _, rfl⟩
theorem kindGo_at {s : List UInt8} {k : Nat} (hk : k < 16) : kindGo s (namesL.drop k) k = if 0 < k ∧ s = nameK k then k else kindGo s (namesL.drop (k + 1)) (k + 1) := by
  rw [names_at k hk, kindGo]
set_option maxHeartbeats 1000000 in
set_option maxRecDepth 100000 in
theorem name_any (t : Tok) (w : World) : Calls Tryd.prog 70 #[.agg #[.int .i64 t.kind, .string ⟨t.s.toArray⟩, .int .i64 t.n, .int .i64 t.place]] w fun e w' => Bel w w' ∧ e = .returned (.int .i64 (nameS t)) := by
  obtain ⟨W, hW⟩ : ∃ W, w.alloc (.cells #[.int .i64 t.kind, .string ⟨t.s.toArray⟩, .int .i64 t.n, .int .i64 t.place] 106) = W := ⟨_, rfl⟩
  have hbx : W.heap[w.heap.size]? = some (.cells #[.int .i64 t.kind, .string ⟨t.s.toArray⟩, .int .i64 t.n, .int .i64 t.place] 106 (0, 0)) := hW ▸ heap_alloc_new _ _
  have HBW : Hid (Bel w W) := hW ▸ (Bel.refl w).alloc _
  go_enter Tryd.func70, Tryd.ntmps70
  go_wp2_with (first
    | (go_at_call 40; (try rw [hW]); (with_reducible refine (kinds_any _).mono ?_); rintro e w2 ⟨hb2, a, b, c, rfl, hwrd⟩; have HB2 := Lib.hid hb2; clear hb2))
  have hix := kind_at a b c
  obtain ⟨KA, hKA⟩ : ∃ KA, (kindsV a b c).toArray = KA := ⟨_, rfl⟩
  rw [hKA] at hix ⊢
  have HIX := Lib.hid hix
  have HBX := Lib.hid (HB2.out.heap hbx)
  clear hix hwrd hbx hKA hW
  go_loopg [6] 16 (fun gf s6 wx => ∃ k : Nat, s6 = .int .i64 k ∧ k ≤ 16 ∧ 16 ≤ k + gf ∧ (t.kind = 1 → kindOf t.s = kindGo t.s (namesL.drop k) k) ∧ Bel w2 wx)
  case atStart => exact ⟨0, rfl, by omega, by omega, fun _ => rfl, Bel.refl _⟩
  case round =>
    obtain ⟨k, rfl, hk16, hkg, hrel, hbl⟩ := hrel
    have HREL := Lib.hid hrel
    have HBL := Lib.hid hbl
    clear hrel
    by_cases hk : k < 16
    · have hix := HIX.out k hk
      have c0 : ∀ o, (wr.alloc o).cell? ⟨w.heap.size, 0, none⟩ = some (.int .i64 t.kind) := fun o => heap_cell (heap_push_of (hbl.heap HBX.out) o) 0
      have c1 : ∀ o, (wr.alloc o).cell? ⟨w.heap.size, 1, none⟩ = some (.string ⟨t.s.toArray⟩) := fun o => heap_cell (heap_push_of (hbl.heap HBX.out) o) 1
      obtain ⟨wp, wl, wm, hwv⟩ := wordsV_form a b c k
      rw [hwv] at hix
      clear hbl
      obtain ⟨gk', rfl⟩ : ∃ g, gk = g + 1 := ⟨gk - 1, by omega⟩
      obtain ⟨b1, hb1⟩ : ∃ b1, (t.kind == 1) = b1 := ⟨_, rfl⟩
      obtain ⟨b2, hb2⟩ : ∃ b2, (t.s == nameK k) = b2 := ⟨_, rfl⟩
      by_cases h0 : 0 < k
      · cases b1 with
        | false =>
          have H1 : Hid (t.kind ≠ 1) := by unfold Hid; simpa using hb1
          have HB9 : Hid (Bel w2 (wr.alloc (.cells #[.string ⟨(nameK k).toArray⟩, .int .i64 (countC k), .slice wp wl wm, .bool (pathK k), .bool (dashK k)] 78))) := HBL.out.alloc _
          go_wp2
          go_roundg gk'
          case measure => omega
          case rel => exact ⟨k + 1, rfl, by omega, by omega, fun h => by rw [HREL.out h, kindGo_at hk, if_neg (fun _ => H1.out h)], HB9.out⟩
        | true =>
          have H1 : Hid (t.kind = 1) := by unfold Hid; simpa using hb1
          cases b2 with
          | false =>
            have H2 : Hid (t.s ≠ nameK k) := by unfold Hid; simpa using hb2
            have HB9 : Hid (Bel w2 (wr.alloc (.cells #[.string ⟨(nameK k).toArray⟩, .int .i64 (countC k), .slice wp wl wm, .bool (pathK k), .bool (dashK k)] 78))) := HBL.out.alloc _
            go_wp2
            go_roundg gk'
            case measure => omega
            case rel => exact ⟨k + 1, rfl, by omega, by omega, fun h => by rw [HREL.out h, kindGo_at hk, if_neg (fun e => H2.out e.2)], HB9.out⟩
          | true =>
            have H2 : Hid (t.s = nameK k) := by unfold Hid; simpa using hb2
            have HB9 : Hid (Bel w2 (wr.alloc (.cells #[.string ⟨(nameK k).toArray⟩, .int .i64 (countC k), .slice wp wl wm, .bool (pathK k), .bool (dashK k)] 78))) := HBL.out.alloc _
            have HR : Hid (nameS t = k) := by
              unfold Hid nameS
              rw [if_pos H1.out, HREL.out H1.out, kindGo_at hk, if_pos ⟨h0, H2.out⟩]
            go_wp2
            go_ret
            exact ⟨(HBW.out.trans HB2.out).trans HB9.out, by rw [HR.out]; rfl⟩
      · have HB9 : Hid (Bel w2 (wr.alloc (.cells #[.string ⟨(nameK k).toArray⟩, .int .i64 (countC k), .slice wp wl wm, .bool (pathK k), .bool (dashK k)] 78))) := HBL.out.alloc _
        go_wp2
        go_roundg gk'
        case measure => omega
        case rel => exact ⟨k + 1, rfl, by omega, by omega, fun h => by rw [HREL.out h, kindGo_at hk, if_neg (fun e => h0 e.1)], HB9.out⟩
    · obtain rfl : k = 16 := by omega
      have HR : Hid (nameS t = 0) := by
        unfold Hid nameS
        split
        · rename_i h
          rw [HREL.out h]
          rfl
        · rfl
      go_wp2
      go_ret
      exact ⟨(HBW.out.trans HB2.out).trans HBL.out, by rw [HR.out]; rfl⟩
end Go.Proofs.YtefajplbgmikdaaDoor
