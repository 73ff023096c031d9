/-
  What the walks of this seat lean on: worlds that kept what they had, rows that can be read, the table of powers of ten.
-/
import Derived.Test.YtefajplbgmikdaaDoorRows
import Derived.Test.YtefajplbgmikdaaDoorShelf
import Derived.WalkKit
import Derived.WalkSpells
import Derived.WalkLawsBesides
import Derived.Lib.ConvBytes
import Derived.Lib.Hide
import Derived.ArgAppend
import Derived.Lib.AppendStr
import Derived.Lib.AppendIntMem
import Derived.BigQuiet
import Derived.Deep.QuietTactic
import Derived.Deep.RegionHeld3
import Derived.Deep.AppendLies
import Derived.Deep.CutRange
import Derived.Laws.OwnMore
import Derived.Deep.MidRow
import Derived.Deep.LoopGhost
namespace Go.Proofs.YtefajplbgmikdaaDoor
open Go.RowKit

/-- Nothing of w0 has changed. -/
def Bel (w0 w : World) : Prop := Below w0.heap.size w0 w
theorem Bel.refl (w : World) : Bel w w := Below.refl _ _
theorem Bel.drew {w0 w : World} (h : Bel w0 w) : Bel w0 w.drew := Below.drew h
theorem Bel.alloc {w0 w : World} (h : Bel w0 w) (o : Obj) : Bel w0 (w.alloc o) := Below.alloc h (Below.size h) o
theorem Bel.then {w0 w w' : World} (h : Bel w0 w) (hb : Below w.heap.size w w') : Bel w0 w' := Below.trans h (hb.mono (Below.size h))
theorem Bel.at {w0 w w' : World} {g : Nat} (h : Bel w0 w) (hg : w0.heap.size ≤ g) (hb : Below g w w') : Bel w0 w' := Below.trans h (hb.mono hg)
theorem Bel.trans {w0 w w' : World} (h : Bel w0 w) (h' : Bel w w') : Bel w0 w' := h.then h'
theorem Bel.cell {w0 w : World} (h : Bel w0 w) {a : Addr} {v : Value} (hc : w0.cell? a = some v) : w.cell? a = some v := (Below.cell h (World.block_lt_of_cell? w0 a hc)).trans hc

theorem Bel.set {w0 w : World} (h : Bel w0 w) {p : Addr} (hp : w0.heap.size ≤ p.block) (u : Value) : Bel w0 (w.setCell p u) := Below.setCell h hp u
theorem Bel.size {w0 w : World} (h : Bel w0 w) : w0.heap.size ≤ w.heap.size := Below.size h
theorem Bel.own {w0 w : World} (h : Bel w0 w) {base e size n : Nat} {v : Value} {xs : List Value} (ho : w0.ownsRow base e size v n xs) : w.ownsRow base e size v n xs := by
  refine ⟨ho.1, ?_⟩
  rcases ho.2 with hn | ⟨g, cap, cur, rfl, hb, hgg, rest⟩
  · exact .inl hn
  · exact .inr ⟨g, cap, cur, rfl, hb, by rw [Below.block h g (Array.getElem?_eq_some_iff.1 hgg).1]; exact hgg, rest⟩
/-- All but one block (where there is one) of w is as it was. -/
def But (row : Option Nat) (w w' : World) : Prop := w.grownBy w' row
theorem But.bel {row : Option Nat} {w0 w w' : World} (h : Bel w0 w) (hg : But row w w') (hr : ∀ k, row = some k → w0.heap.size ≤ k) : Bel w0 w' := Below.grown h hg (Below.size h) hr
theorem cells_new (w : World) (cs : Array Value) (t : TypeId) (fr : Nat × Nat) : ∀ (j : Nat) (u : Value), cs.toList[j]? = some u → (w.alloc (.cells cs t fr)).cell? ((⟨w.heap.size, 0, none⟩ : Addr).add j) = some u := by
  intro j u hj
  rw [Addr.add_lit, Nat.zero_add, World.cell?_alloc_mark, ← Array.getElem?_toList]
  exact hj
theorem grown_alloc (w : World) (o : Obj) (row : Option Nat) : w.grownBy (w.alloc o) row := ⟨rfl, rfl, rfl, by simp, fun k hk _ => Below.heap_alloc _ _ _ hk⟩
theorem grown_trans {a b c : World} {row : Option Nat} (h : a.grownBy b row) (h' : b.grownBy c row) : a.grownBy c row :=
  ⟨h'.os.trans h.os, h'.tape.trans h.tape, h'.output.trans h.output, Nat.le_trans h.size h'.size, fun k hk hr => (h'.block k (Nat.lt_of_lt_of_le hk h.size) hr).trans (h.block k hk hr)⟩
/-- One element behind those of a row of the call's own. -/
theorem wpList_push {P : Program} {V : World} {ops : Array Oper} {rest : List Oper} {o : Oper} {a : Act} {Q : Exit → Act → World → Prop} (hgd : o.guard = none) (s x : Operand) (t : TypeId)
    (ho : o.op = .call { callee := .builtin .append, args := #[s, x], argTypes := #[t, t] }) (base : Nat) (e : TypeId) (z : Value) (size bytes : Nat) (ht : P.underlying t = some (.slice e))
    (hinfo : (P.info? e).map (fun i => (i.zero, i.size, i.bytes)) = some (some z, size, bytes)) (hzs : z.cells.size = size) (hsz : 0 < size)
    (v : Value) (n : Nat) (xs : List Value) (hs : a.eval s = v) (hown : V.ownsRow base e size v n xs) (cs : Array Value) (fr : Nat × Nat) (g : Nat) (hx : a.eval x = .slice (some ⟨g, 0, none⟩) 1 1) (hgs : g = V.heap.size) (hcs : cs.toList.length = size)
    (h1 : ∀ u ∈ cs.toList, u.oneCell' = true) (h63 : n + 1 ≤ maxLen) (hbytes : (n + 1) * bytes ≤ 140737488355328) (hbase : base ≤ V.heap.size)
    (h : ∀ v' w', w'.ownsRow base e size v' (n + 1) (xs ++ cs.toList) → V.grownBy w' v.ownBlock → v' ≠ .slice none 0 0 → wpList P ops Q rest (a.put o.dst v') w') : wpList P ops Q (o :: rest) a (V.alloc (.cells cs e fr)) := by
  subst hgs
  obtain ⟨i0, hi, hz0, hz1, hz2⟩ := info_parts hinfo
  refine wpList_append_own _ hgd s x t ho base e i0 z size bytes ht hi hz0 hz1 hz2 hzs hsz v n xs hs (hown.alloc _) ⟨V.heap.size, 0, none⟩ 1 1 cs.toList hx (by omega) (cells_new V cs e fr) h1 h63 hbytes (Nat.le_trans hbase (by simp)) ?_
  intro v' w' ho' hg hnil
  exact h v' w' ho' (grown_trans (grown_alloc _ _ _) hg) (fun he => by have := (hnil.1 he).2; omega)

/-- The same at a step of a region that draws its order; the new slice written out. -/
theorem step_push {P : Program} {W : World} {ops : Array Oper} {o : Oper} {a : Act} {K : Act → World → Prop} {Q : Exit → Act → World → Prop} {E : Prop} (hgd : o.guard = none) (s x : Operand) (t : TypeId)
    (ho : o.op = .call { callee := .builtin .append, args := #[s, x], argTypes := #[t, t] }) (base : Nat) (e : TypeId) (z : Value) (size bytes : Nat) (ht : P.underlying t = some (.slice e))
    (hinfo : (P.info? e).map (fun i => (i.zero, i.size, i.bytes)) = some (some z, size, bytes)) (hzs : z.cells.size = size) (hsz : 0 < size)
    (v : Value) (n : Nat) (xs : List Value) (hs : a.eval s = v) (hown : W.ownsRow base e size v n xs) (cs : Array Value) (fr : Nat × Nat) (g : Nat) (hx : a.eval x = .slice (some ⟨g, 0, none⟩) 1 1) (hnew : W.heap[g]? = some (.cells cs e fr)) (hcs : cs.toList.length = size)
    (h1 : ∀ u ∈ cs.toList, u.oneCell' = true) (h63 : n + 1 ≤ maxLen) (hbytes : (n + 1) * bytes ≤ 140737488355328) (hbase : base ≤ W.heap.size)
    (h : ∀ g' cap w', w'.ownsRow base e size (.slice (some ⟨g', 0, none⟩) (n + 1) cap) (n + 1) (xs ++ cs.toList) → W.grownBy w' v.ownBlock → K (a.put o.dst (.slice (some ⟨g', 0, none⟩) (n + 1) cap)) w') :
    if Region.wanted o (yielded ops a.tmps) = true then Oper.wp P o a W K Q else E := by
  obtain ⟨i0, hi, hz0, hz1, hz2⟩ := info_parts hinfo
  refine step_append_lies W hgd s x t ho base e i0 z size bytes ht hi hz0 hz1 hz2 hzs hsz v n xs hs hown ⟨g, 0, none⟩ 1 1 cs.toList hx (by omega) (World.news_of_block hnew) h1 (by decide) h63 hbytes hbase _ rfl ?_
  intro g' cap w' h2 h3 _ _
  exact h g' cap w' h2 h3

/-- An element of an array by value: a struct, or an array. -/
theorem run_index_agg {P : Program} (t e : TypeId) (n : Nat) (d : TypeDesc) (cs : Array Value) (sz i : Nat) (hu : P.underlying t = some (.array n e)) (hd : P.underlying e = some d) (hr : d.isRow = true)
    (hi : (P.info? e).map (·.size) = some sz) (hn : i < n) (w : World) : (Instr.index t (.agg cs) (.int .i64 i)).run P w = .ok (.agg (cs.extract (i * sz) (i * sz + sz))) w := by
  cases hq : P.info? e with
  | none => simp [hq] at hi
  | some q =>
    have hs : q.size = sz := by simpa [hq] using hi
    have hagg : (isAgg e).run P w = .ok true w := by
      unfold isAgg
      rw [Sem.run_bind, run_underlying hd w]
      cases d <;> simp_all
    have hn' : (0 : Int) ≤ i ∧ (i : Int) < n := by omega
    simp [Instr.index, run_underlying hu, asIntOf, hn', part, Sem.run_bind, hagg, sizeOf, typeInfo, hq, hs]
    omega

/-- The powers of ten lie where strconv reads them, in this world and in all that kept it. -/
abbrev Tab (w : World) : Prop := Lib.TabBelow Tryd.prog w.heap.size w "internal/strconv.uint64pow10" .u64 Lib.pow10Tab
theorem Tab.on {w w' : World} (h : Tab w) (hb : Below w.heap.size w w') : Tab w' := fun w2 hb2 => h w2 (hb.trans (hb2.mono hb.size))
theorem Bel.tab {w0 w : World} (h : Bel w0 w) (ht : Tab w0) : Tab w := ht.on h

def TruePost (w : World) (e : Ending) (w' : World) : Prop := e = .returned (.bool true) ∧ Below w.heap.size w w'
end Go.Proofs.YtefajplbgmikdaaDoor
