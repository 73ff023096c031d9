/-
  What the walks of this seat lean on: worlds that kept what they had, rows that can be read, the table of powers of ten.
-/
import Derived.Test.YtefajplbgmikdaaDoorRows
import Derived.Test.YtefajplbgmikdaaDoorShelf
import Derived.WalkKit
import Derived.WalkSpells
import Derived.WalkLawsBesides
import Derived.Lib.ConvBytes
import Derived.Lib.Hide
import Derived.ArgAppend
import Derived.Lib.AppendStr
import Derived.Lib.AppendIntMem
import Derived.BigQuiet
import Derived.Deep.QuietTactic
import Derived.Deep.RegionHeld3
import Derived.Deep.AppendLies
import Derived.Deep.CutRange
import Derived.Laws.OwnMore
import Derived.Deep.MidRow
import Derived.Deep.LoopGhost
import Derived.Test.YtefajplbgmikdaaDoorCmj1
import Derived.Lib.OthersKept
namespace Go.Proofs.YtefajplbgmikdaaDoor
open Go.RowKit

/-- Nothing of w0 has changed. -/
def Bel (w0 w : World) : Prop := Below w0.heap.size w0 w
theorem Bel.refl (w : World) : Bel w w := Below.refl _ _
theorem Bel.drew {w0 w : World} (h : Bel w0 w) : Bel w0 w.drew := Below.drew h
theorem Bel.alloc {w0 w : World} (h : Bel w0 w) (o : Obj) : Bel w0 (w.alloc o) := Below.alloc h (Below.size h) o
theorem Bel.then {w0 w w' : World} (h : Bel w0 w) (hb : Below w.heap.size w w') : Bel w0 w' := Below.trans h (hb.mono (Below.size h))
theorem Bel.at {w0 w w' : World} {g : Nat} (h : Bel w0 w) (hg : w0.heap.size ≤ g) (hb : Below g w w') : Bel w0 w' := Below.trans h (hb.mono hg)
theorem Bel.trans {w0 w w' : World} (h : Bel w0 w) (h' : Bel w w') : Bel w0 w' := h.then h'
theorem Bel.cell {w0 w : World} (h : Bel w0 w) {a : Addr} {v : Value} (hc : w0.cell? a = some v) : w.cell? a = some v := (Below.cell h (World.block_lt_of_cell? w0 a hc)).trans hc

theorem Bel.set {w0 w : World} (h : Bel w0 w) {p : Addr} (hp : w0.heap.size ≤ p.block) (u : Value) : Bel w0 (w.setCell p u) := Below.setCell h hp u
theorem Bel.size {w0 w : World} (h : Bel w0 w) : w0.heap.size ≤ w.heap.size := Below.size h
theorem Bel.own {w0 w : World} (h : Bel w0 w) {base e size n : Nat} {v : Value} {xs : List Value} (ho : w0.ownsRow base e size v n xs) : w.ownsRow base e size v n xs := by
  refine ⟨ho.1, ?_⟩
  rcases ho.2 with hn | ⟨g, cap, cur, rfl, hb, hgg, rest⟩
  · exact .inl hn
  · exact .inr ⟨g, cap, cur, rfl, hb, by rw [Below.block h g (Array.getElem?_eq_some_iff.1 hgg).1]; exact hgg, rest⟩
/-- All but one block (where there is one) of w is as it was. -/
def But (row : Option Nat) (w w' : World) : Prop := w.grownBy w' row
theorem But.bel {row : Option Nat} {w0 w w' : World} (h : Bel w0 w) (hg : But row w w') (hr : ∀ k, row = some k → w0.heap.size ≤ k) : Bel w0 w' := Below.grown h hg (Below.size h) hr
theorem cells_new (w : World) (cs : Array Value) (t : TypeId) (fr : Nat × Nat) : ∀ (j : Nat) (u : Value), cs.toList[j]? = some u → (w.alloc (.cells cs t fr)).cell? ((⟨w.heap.size, 0, none⟩ : Addr).add j) = some u := by
  intro j u hj
  rw [Addr.add_lit, Nat.zero_add, World.cell?_alloc_mark, ← Array.getElem?_toList]
  exact hj
theorem grown_alloc (w : World) (o : Obj) (row : Option Nat) : w.grownBy (w.alloc o) row := ⟨rfl, rfl, rfl, by simp, fun k hk _ => Below.heap_alloc _ _ _ hk⟩
theorem grown_trans {a b c : World} {row : Option Nat} (h : a.grownBy b row) (h' : b.grownBy c row) : a.grownBy c row :=
  ⟨h'.os.trans h.os, h'.tape.trans h.tape, h'.output.trans h.output, Nat.le_trans h.size h'.size, fun k hk hr => (h'.block k (Nat.lt_of_lt_of_le hk h.size) hr).trans (h.block k hk hr)⟩
/-- One element behind those of a row of the call's own. -/
theorem wpList_push {P : Program} {V : World} {ops : Array Oper} {rest : List Oper} {o : Oper} {a : Act} {Q : Exit → Act → World → Prop} (hgd : o.guard = none) (s x : Operand) (t : TypeId)
    (ho : o.op = .call { callee := .builtin .append, args := #[s, x], argTypes := #[t, t] }) (base : Nat) (e : TypeId) (z : Value) (size bytes : Nat) (ht : P.underlying t = some (.slice e))
    (hinfo : (P.info? e).map (fun i => (i.zero, i.size, i.bytes)) = some (some z, size, bytes)) (hzs : z.cells.size = size) (hsz : 0 < size)
    (v : Value) (n : Nat) (xs : List Value) (hs : a.eval s = v) (hown : V.ownsRow base e size v n xs) (cs : Array Value) (fr : Nat × Nat) (g : Nat) (hx : a.eval x = .slice (some ⟨g, 0, none⟩) 1 1) (hgs : g = V.heap.size) (hcs : cs.toList.length = size)
    (h1 : ∀ u ∈ cs.toList, u.oneCell' = true) (h63 : n + 1 ≤ maxLen) (hbytes : (n + 1) * bytes ≤ 140737488355328) (hbase : base ≤ V.heap.size)
    (h : ∀ v' w', w'.ownsRow base e size v' (n + 1) (xs ++ cs.toList) → V.grownBy w' v.ownBlock → v' ≠ .slice none 0 0 → wpList P ops Q rest (a.put o.dst v') w') : wpList P ops Q (o :: rest) a (V.alloc (.cells cs e fr)) := by
  subst hgs
  obtain ⟨i0, hi, hz0, hz1, hz2⟩ := info_parts hinfo
  refine wpList_append_own _ hgd s x t ho base e i0 z size bytes ht hi hz0 hz1 hz2 hzs hsz v n xs hs (hown.alloc _) ⟨V.heap.size, 0, none⟩ 1 1 cs.toList hx (by omega) (cells_new V cs e fr) h1 h63 hbytes (Nat.le_trans hbase (by simp)) ?_
  intro v' w' ho' hg hnil
  exact h v' w' ho' (grown_trans (grown_alloc _ _ _) hg) (fun he => by have := (hnil.1 he).2; omega)

/-- The same at a step of a region that draws its order; the new slice written out. -/
theorem step_push {P : Program} {W : World} {ops : Array Oper} {o : Oper} {a : Act} {K : Act → World → Prop} {Q : Exit → Act → World → Prop} {E : Prop} (hgd : o.guard = none) (s x : Operand) (t : TypeId)
    (ho : o.op = .call { callee := .builtin .append, args := #[s, x], argTypes := #[t, t] }) (base : Nat) (e : TypeId) (z : Value) (size bytes : Nat) (ht : P.underlying t = some (.slice e))
    (hinfo : (P.info? e).map (fun i => (i.zero, i.size, i.bytes)) = some (some z, size, bytes)) (hzs : z.cells.size = size) (hsz : 0 < size)
    (v : Value) (n : Nat) (xs : List Value) (hs : a.eval s = v) (hown : W.ownsRow base e size v n xs) (cs : Array Value) (fr : Nat × Nat) (g : Nat) (hx : a.eval x = .slice (some ⟨g, 0, none⟩) 1 1) (hnew : W.heap[g]? = some (.cells cs e fr)) (hcs : cs.toList.length = size)
    (h1 : ∀ u ∈ cs.toList, u.oneCell' = true) (h63 : n + 1 ≤ maxLen) (hbytes : (n + 1) * bytes ≤ 140737488355328) (hbase : base ≤ W.heap.size)
    (h : ∀ g' cap w', w'.ownsRow base e size (.slice (some ⟨g', 0, none⟩) (n + 1) cap) (n + 1) (xs ++ cs.toList) → W.grownBy w' v.ownBlock → K (a.put o.dst (.slice (some ⟨g', 0, none⟩) (n + 1) cap)) w') :
    if Region.wanted o (yielded ops a.tmps) = true then Oper.wp P o a W K Q else E := by
  obtain ⟨i0, hi, hz0, hz1, hz2⟩ := info_parts hinfo
  refine step_append_lies W hgd s x t ho base e i0 z size bytes ht hi hz0 hz1 hz2 hzs hsz v n xs hs hown ⟨g, 0, none⟩ 1 1 cs.toList hx (by omega) (World.news_of_block hnew) h1 (by decide) h63 hbytes hbase _ rfl ?_
  intro g' cap w' h2 h3 _ _
  exact h g' cap w' h2 h3

/-- An element of an array by value: a struct, or an array. -/
theorem run_index_agg {P : Program} (t e : TypeId) (n : Nat) (d : TypeDesc) (cs : Array Value) (sz i : Nat) (hu : P.underlying t = some (.array n e)) (hd : P.underlying e = some d) (hr : d.isRow = true)
    (hi : (P.info? e).map (·.size) = some sz) (hn : i < n) (w : World) : (Instr.index t (.agg cs) (.int .i64 i)).run P w = .ok (.agg (cs.extract (i * sz) (i * sz + sz))) w := by
  cases hq : P.info? e with
  | none => simp [hq] at hi
  | some q =>
    have hs : q.size = sz := by simpa [hq] using hi
    have hagg : (isAgg e).run P w = .ok true w := by
      unfold isAgg
      rw [Sem.run_bind, run_underlying hd w]
      cases d <;> simp_all
    have hn' : (0 : Int) ≤ i ∧ (i : Int) < n := by omega
    simp [Instr.index, run_underlying hu, asIntOf, hn', part, Sem.run_bind, hagg, sizeOf, typeInfo, hq, hs]
    omega

/-- The powers of ten lie where strconv reads them, in this world and in all that kept it. -/
abbrev Tab (w : World) : Prop := Lib.TabBelow Tryd.prog w.heap.size w "internal/strconv.uint64pow10" .u64 Lib.pow10Tab
theorem Tab.on {w w' : World} (h : Tab w) (hb : Below w.heap.size w w') : Tab w' := fun w2 hb2 => h w2 (hb.trans (hb2.mono hb.size))
theorem Bel.tab {w0 w : World} (h : Bel w0 w) (ht : Tab w0) : Tab w := ht.on h

def TruePost (w : World) (e : Ending) (w' : World) : Prop := e = .returned (.bool true) ∧ Below w.heap.size w w'
end Go.Proofs.YtefajplbgmikdaaDoor

/-
  The walk of path.find: the rule of a letter.
-/
namespace Go.Proofs.YtefajplbgmikdaaDoor
open Go.RowKit

def rlC (r : Rl) : List Value := [.int .u8 r.name, .int .i64 r.count, .int .i64 r.kind]
def rlV (r : Rl) : Value := .agg #[.int .u8 r.name, .int .i64 r.count, .int .i64 r.kind]
def rulesC : List Value := rulesL.flatMap rlC
theorem rulesC_eq : rulesC = [.int .u8 77, .int .i64 2, .int .i64 1, .int .u8 76, .int .i64 2, .int .i64 2, .int .u8 72, .int .i64 1, .int .i64 2, .int .u8 86, .int .i64 1, .int .i64 2, .int .u8 81, .int .i64 4, .int .i64 3, .int .u8 67, .int .i64 6, .int .i64 4, .int .u8 83, .int .i64 4, .int .i64 4, .int .u8 84, .int .i64 2, .int .i64 3, .int .u8 75, .int .i64 5, .int .i64 5, .int .u8 90, .int .i64 0, .int .i64 6] := rfl
/-- The rules lie where path.find reads them. -/
def Rul (w : World) : Prop := w.rangeAt 2 0 rulesC
theorem Bel.rul {w0 w : World} (h : Bel w0 w) (hr : Rul w0) : Rul w := fun j v hj => h.cell (hr j v hj)
theorem infoRules : (Tryd.prog.info? 170).map (·.size) = some rulesC.length := by kernel_rfl
theorem rul_load {w : World} (h : Rul w) : (Instr.loadAt 170 (.pointer (some ⟨2, 0, none⟩))).run Tryd.prog w = .ok (.agg rulesC.toArray) w :=
  run_loadAt_mid (P := Tryd.prog) w _ 0 170 rulesC _ h Tryd.underlying170 rfl (by kernel_rfl)

def findS (c : Nat) : Rl × Bool × Bool := match ruleOf c with | some r => (r, smallC c, true) | none => (⟨0, 0, 0⟩, false, false)
def FindPost (c : Nat) (w : World) (e : Ending) (w' : World) : Prop := e = .returned (.tuple #[rlV (findS c).1, .bool (findS c).2.1, .bool (findS c).2.2]) ∧ Bel w w'
theorem find_some {c k : Nat} {r : Rl} (hk : rulesL[k]? = some r) (he : upC c = r.name) (hn : ∀ j r', j < k → rulesL[j]? = some r' → upC c ≠ r'.name) : ruleOf c = some r := by
  unfold ruleOf
  rw [List.find?_eq_some_iff_getElem]
  obtain ⟨hlt, hkk⟩ := List.getElem?_eq_some_iff.1 hk
  refine ⟨by simp [he], k, hlt, hkk, fun j hj => ?_⟩
  have := hn j (rulesL[j]'(by omega)) hj (List.getElem?_eq_getElem _)
  simp [Ne.symm this]
theorem find_none {c : Nat} (hn : ∀ j r', j < 10 → rulesL[j]? = some r' → upC c ≠ r'.name) : ruleOf c = none := by
  unfold ruleOf
  rw [List.find?_eq_none]
  intro x hx
  obtain ⟨j, hj, rfl⟩ := List.mem_iff_getElem.1 hx
  have := hn j _ hj (List.getElem?_eq_getElem hj)
  simp [Ne.symm this]
def NoneTo (u k : Nat) : Prop := ∀ j r', j < k → rulesL[j]? = some r' → u ≠ r'.name
theorem NoneTo.next {u k : Nat} {r : Rl} (h : NoneTo u k) (hk : rulesL[k]? = some r) (hne : u ≠ r.name) : NoneTo u (k + 1) := fun j r' hj hr => by
  rcases Nat.lt_succ_iff_lt_or_eq.1 hj with h1 | rfl
  · exact h j r' h1 hr
  · rw [hk] at hr
    obtain rfl := Option.some.inj hr
    exact hne

theorem rule_at {k : Nat} {r : Rl} (h : rulesL[k]? = some r) (w : World) : (Instr.index 170 (.agg rulesC.toArray) (.int .i64 k)).run Tryd.prog w = .ok (rlV r) w := by
  have hk : k < 10 := (List.getElem?_eq_some_iff.1 h).1
  rw [run_index_agg 170 121 10 _ _ 3 k Tryd.underlying170 Tryd.underlying121 rfl (by kernel_rfl) hk w]
  have hk' : k = 0 ∨ k = 1 ∨ k = 2 ∨ k = 3 ∨ k = 4 ∨ k = 5 ∨ k = 6 ∨ k = 7 ∨ k = 8 ∨ k = 9 := by omega
  rcases hk' with rfl | rfl | rfl | rfl | rfl | rfl | rfl | rfl | rfl | rfl <;> (obtain rfl := Option.some.inj h; rfl)

/-- A box of three cells of the call's own, in a world that kept it. -/
theorem box3 {w wr : World} {t : TypeId} {c0 c1 c2 : Value} (h : Bel (w.alloc (.cells #[c0, c1, c2] t)) wr) :
    (wr.cell? ⟨w.heap.size, 0, none⟩ = some c0 ∧ wr.cell? ⟨w.heap.size, 1, none⟩ = some c1 ∧ wr.cell? ⟨w.heap.size, 2, none⟩ = some c2) ∧ (∀ j, wr.frozen? ⟨w.heap.size, j, none⟩ = false) ∧
    ∀ a0 a1 a2, (((wr.setCell ⟨w.heap.size, 0, none⟩ a0).setCell ⟨w.heap.size, 1, none⟩ a1).setCell ⟨w.heap.size, 2, none⟩ a2).cell? ⟨w.heap.size, 0, none⟩ = some a0 ∧
      (((wr.setCell ⟨w.heap.size, 0, none⟩ a0).setCell ⟨w.heap.size, 1, none⟩ a1).setCell ⟨w.heap.size, 2, none⟩ a2).cell? ⟨w.heap.size, 1, none⟩ = some a1 ∧
      (((wr.setCell ⟨w.heap.size, 0, none⟩ a0).setCell ⟨w.heap.size, 1, none⟩ a1).setCell ⟨w.heap.size, 2, none⟩ a2).cell? ⟨w.heap.size, 2, none⟩ = some a2 := by
  have hz : (w.alloc (.cells #[c0, c1, c2] t)).heap[w.heap.size]? = some (.cells #[c0, c1, c2] t (0, 0)) := heap_alloc_new _ _
  have hlt : w.heap.size < (w.alloc (.cells #[c0, c1, c2] t)).heap.size := by simp
  have hb : wr.heap[w.heap.size]? = some (.cells #[c0, c1, c2] t (0, 0)) := (Below.block h _ hlt).trans hz
  refine ⟨⟨?_, ?_, ?_⟩, fun j => ?_, fun a0 a1 a2 => ?_⟩
  · simp [World.cell?, hb]
  · simp [World.cell?, hb]
  · simp [World.cell?, hb]
  · simp [World.frozen?, hb]
  · refine ⟨?_, ?_, ?_⟩ <;> simp [World.cell?, World.setCell, Array.getElem?_modify, hb]
theorem bel_set3 {w wr : World} {o : Obj} (h : Bel (w.alloc o) wr) (a0 a1 a2 : Value) : Bel w (((wr.setCell ⟨w.heap.size, 0, none⟩ a0).setCell ⟨w.heap.size, 1, none⟩ a1).setCell ⟨w.heap.size, 2, none⟩ a2) :=
  ((Bel.trans ((Bel.refl w).alloc o) h).set (p := ⟨w.heap.size, 0, none⟩) (Nat.le_refl _) a0).set (p := ⟨w.heap.size, 1, none⟩) (Nat.le_refl _) a1 |>.set (p := ⟨w.heap.size, 2, none⟩) (Nat.le_refl _) a2

set_option maxHeartbeats 1000000 in
set_option maxRecDepth 100000 in
theorem find_any (c : Nat) (w : World) (hc : c < 256) (hr : Rul w) : Calls Tryd.prog 103 #[.int .u8 c] w (FindPost c w) := by
  have HR := Lib.hid hr
  clear hr
  have hb0 : Hid (Bel w (w.alloc (.cells #[.int .u8 0, .int .i64 0, .int .i64 0] 121))) := (Bel.refl w).alloc _
  have HR0 := Lib.hid (hb0.out.rul HR.out)
  have hixa : ∀ (k : Nat) (r : Rl), rulesL[k]? = some r → ∀ w, (Instr.index 170 (.agg rulesC.toArray) (.int .i64 k)).run Tryd.prog w = .ok (rlV r) w := fun k r h w => rule_at h w
  obtain ⟨RA, hRA⟩ : ∃ RA, rulesC.toArray = RA := ⟨_, rfl⟩
  rw [hRA] at hixa
  have HIX := Lib.hid hixa
  clear hixa
  by_cases hs : 97 ≤ c ∧ c ≤ 122
  · have d1 : decide ((97 : Int) ≤ c) = true := decide_eq_true (by omega)
    have d2 : decide ((c : Int) ≤ 122) = true := decide_eq_true (by omega)
    obtain ⟨u, hu⟩ : ∃ u, c = u + 32 := ⟨c - 32, by omega⟩
    have hsub : (c : Int) - 32 = (u : Int) := by omega
    have HSM : Hid (smallC (u + 32) = true) := by unfold Hid smallC; simp; omega
    have HUP : Hid (upC (u + 32) = u) := by unfold Hid upC; rw [HSM.out]; simp
    go_enter Tryd.func103, Tryd.ntmps103
    go_wp2_with (first
      | (refine wpList_load_mid rfl 170 (.global 2) rfl 2 0 rfl rulesC _ HR0.out Tryd.underlying170 rfl infoRules ?_; rw [hRA]))
    go_loopw [3, 17] (fun s3 i w' => ∃ k : Nat, i = .int .i64 k ∧ s3 = .bool true ∧ k ≤ 10 ∧ NoneTo u k ∧ Bel (w.alloc (.cells #[.int .u8 0, .int .i64 0, .int .i64 0] 121)) w') (fun _ i _ => 10 - (intOf i).toNat)
    case atStart => exact ⟨0, rfl, rfl, by omega, fun j r' hj => by omega, Bel.refl _⟩
    case round =>
      obtain ⟨k, rfl, rfl, hk, hN, hB⟩ := hrel
      have HN := Lib.hid hN
      have HB := Lib.hid hB
      clear hN hB
      have hbx := box3 HB.out
      have hbo := fun o => box3 (Bel.alloc HB.out o)
      have HS1 := Lib.hid hbx.2.2
      have HS2 : Hid (∀ o, _) := fun o => (hbo o).2.2
      have hb1 := hbx.1
      have hb2 := hbx.2.1
      have hb3 := fun o => (hbo o).1
      have hb4 := fun o => (hbo o).2.1
      clear hbx hbo
      by_cases h10 : k < 10
      · obtain ⟨r, hr⟩ : ∃ r, rulesL[k]? = some r := ⟨_, List.getElem?_eq_getElem h10⟩
        have hix := HIX.out _ _ hr
        simp only [rlV] at hix
        obtain ⟨nm, ct, kn⟩ := r
        have HRK := Lib.hid hr
        clear hr
        by_cases he : nm = u
        · subst he
          go_wp2
          refine bodyPost_ret (v := .tuple #[rlV ⟨nm, ct, kn⟩, .bool true, .bool true]) (by have q := HS2.out; simp [results, Tryd.results103, go_sem, rlV, q]) rfl ?_
          have hf : findS (nm + 32) = (⟨nm, ct, kn⟩, true, true) := by
            unfold findS
            rw [find_some HRK.out HUP.out (by rw [HUP.out]; exact HN.out), HSM.out]
          refine ⟨by rw [hf], bel_set3 (Bel.alloc HB.out _) _ _ _⟩
        · have he' : ((nm : Int) == u) = false := by simp; omega
          go_wp2
          go_roundw
          case rel => exact ⟨k + 1, rfl, rfl, by omega, HN.out.next HRK.out (Ne.symm he), Bel.alloc HB.out _⟩
          case measure => simp [intOf]; omega
      · obtain rfl : k = 10 := by omega
        clear h10
        go_wp2
        refine bodyPost_ret (v := .tuple #[rlV ⟨0, 0, 0⟩, .bool false, .bool false]) (by have q := HS1.out; simp [results, Tryd.results103, go_sem, rlV, q]) rfl ?_
        have hf : findS c = (⟨0, 0, 0⟩, false, false) := by
          unfold findS
          rw [hu, find_none (by rw [HUP.out]; exact HN.out)]
        exact ⟨by rw [hf], bel_set3 HB.out _ _ _⟩
  by_cases h9 : 97 ≤ c
  · have d1 : decide ((97 : Int) ≤ c) = true := decide_eq_true (by omega)
    have d2 : decide ((c : Int) ≤ 122) = false := decide_eq_false (by omega)
    obtain ⟨u, hu⟩ : ∃ u, c = u := ⟨_, rfl⟩
    subst hu
    have HSM : Hid (smallC c = false) := by unfold Hid smallC; simp; omega
    have HUP : Hid (upC c = c) := by unfold Hid upC; rw [HSM.out]; simp
    obtain ⟨u, hu⟩ : ∃ u, c = u := ⟨_, rfl⟩
    subst hu
    go_enter Tryd.func103, Tryd.ntmps103
    go_wp2_with (first
      | (refine wpList_load_mid rfl 170 (.global 2) rfl 2 0 rfl rulesC _ HR0.out Tryd.underlying170 rfl infoRules ?_; rw [hRA]))
    go_loopw [3, 17] (fun s3 i w' => ∃ k : Nat, i = .int .i64 k ∧ s3 = .bool false ∧ k ≤ 10 ∧ NoneTo c k ∧ Bel (w.alloc (.cells #[.int .u8 0, .int .i64 0, .int .i64 0] 121)) w') (fun _ i _ => 10 - (intOf i).toNat)
    case atStart => exact ⟨0, rfl, rfl, by omega, fun j r' hj => by omega, Bel.refl _⟩
    case round =>
      obtain ⟨k, rfl, rfl, hk, hN, hB⟩ := hrel
      have HN := Lib.hid hN
      have HB := Lib.hid hB
      clear hN hB
      have hbx := box3 HB.out
      have hbo := fun o => box3 (Bel.alloc HB.out o)
      have HS1 := Lib.hid hbx.2.2
      have HS2 : Hid (∀ o, _) := fun o => (hbo o).2.2
      have hb1 := hbx.1
      have hb2 := hbx.2.1
      have hb3 := fun o => (hbo o).1
      have hb4 := fun o => (hbo o).2.1
      clear hbx hbo
      by_cases h10 : k < 10
      · obtain ⟨r, hr⟩ : ∃ r, rulesL[k]? = some r := ⟨_, List.getElem?_eq_getElem h10⟩
        have hix := HIX.out _ _ hr
        simp only [rlV] at hix
        obtain ⟨nm, ct, kn⟩ := r
        have HRK := Lib.hid hr
        clear hr
        by_cases he : nm = c
        · subst he
          go_wp2
          refine bodyPost_ret (v := .tuple #[rlV ⟨nm, ct, kn⟩, .bool false, .bool true]) (by have q := HS2.out; simp [results, Tryd.results103, go_sem, rlV, q]) rfl ?_
          have hf : findS nm = (⟨nm, ct, kn⟩, false, true) := by
            unfold findS
            rw [find_some HRK.out HUP.out (by rw [HUP.out]; exact HN.out), HSM.out]
          refine ⟨by rw [hf], bel_set3 (Bel.alloc HB.out _) _ _ _⟩
        · have he' : ((nm : Int) == c) = false := by simp; omega
          go_wp2
          go_roundw
          case rel => exact ⟨k + 1, rfl, rfl, by omega, HN.out.next HRK.out (Ne.symm he), Bel.alloc HB.out _⟩
          case measure => simp [intOf]; omega
      · obtain rfl : k = 10 := by omega
        clear h10
        go_wp2
        refine bodyPost_ret (v := .tuple #[rlV ⟨0, 0, 0⟩, .bool false, .bool false]) (by have q := HS1.out; simp [results, Tryd.results103, go_sem, rlV, q]) rfl ?_
        have hf : findS c = (⟨0, 0, 0⟩, false, false) := by
          unfold findS
          rw [find_none (by rw [HUP.out]; exact HN.out)]
        exact ⟨by rw [hf], bel_set3 HB.out _ _ _⟩
  · have d1 : decide ((97 : Int) ≤ c) = false := decide_eq_false (by omega)
    obtain ⟨u, hu⟩ : ∃ u, c = u := ⟨_, rfl⟩
    subst hu
    have HSM : Hid (smallC c = false) := by unfold Hid smallC; simp; omega
    have HUP : Hid (upC c = c) := by unfold Hid upC; rw [HSM.out]; simp
    obtain ⟨u, hu⟩ : ∃ u, c = u := ⟨_, rfl⟩
    subst hu
    go_enter Tryd.func103, Tryd.ntmps103
    go_wp2_with (first
      | (refine wpList_load_mid rfl 170 (.global 2) rfl 2 0 rfl rulesC _ HR0.out Tryd.underlying170 rfl infoRules ?_; rw [hRA]))
    go_loopw [3, 17] (fun s3 i w' => ∃ k : Nat, i = .int .i64 k ∧ s3 = .bool false ∧ k ≤ 10 ∧ NoneTo c k ∧ Bel (w.alloc (.cells #[.int .u8 0, .int .i64 0, .int .i64 0] 121)) w') (fun _ i _ => 10 - (intOf i).toNat)
    case atStart => exact ⟨0, rfl, rfl, by omega, fun j r' hj => by omega, Bel.refl _⟩
    case round =>
      obtain ⟨k, rfl, rfl, hk, hN, hB⟩ := hrel
      have HN := Lib.hid hN
      have HB := Lib.hid hB
      clear hN hB
      have hbx := box3 HB.out
      have hbo := fun o => box3 (Bel.alloc HB.out o)
      have HS1 := Lib.hid hbx.2.2
      have HS2 : Hid (∀ o, _) := fun o => (hbo o).2.2
      have hb1 := hbx.1
      have hb2 := hbx.2.1
      have hb3 := fun o => (hbo o).1
      have hb4 := fun o => (hbo o).2.1
      clear hbx hbo
      by_cases h10 : k < 10
      · obtain ⟨r, hr⟩ : ∃ r, rulesL[k]? = some r := ⟨_, List.getElem?_eq_getElem h10⟩
        have hix := HIX.out _ _ hr
        simp only [rlV] at hix
        obtain ⟨nm, ct, kn⟩ := r
        have HRK := Lib.hid hr
        clear hr
        by_cases he : nm = c
        · subst he
          go_wp2
          refine bodyPost_ret (v := .tuple #[rlV ⟨nm, ct, kn⟩, .bool false, .bool true]) (by have q := HS2.out; simp [results, Tryd.results103, go_sem, rlV, q]) rfl ?_
          have hf : findS nm = (⟨nm, ct, kn⟩, false, true) := by
            unfold findS
            rw [find_some HRK.out HUP.out (by rw [HUP.out]; exact HN.out), HSM.out]
          refine ⟨by rw [hf], bel_set3 (Bel.alloc HB.out _) _ _ _⟩
        · have he' : ((nm : Int) == c) = false := by simp; omega
          go_wp2
          go_roundw
          case rel => exact ⟨k + 1, rfl, rfl, by omega, HN.out.next HRK.out (Ne.symm he), Bel.alloc HB.out _⟩
          case measure => simp [intOf]; omega
      · obtain rfl : k = 10 := by omega
        clear h10
        go_wp2
        refine bodyPost_ret (v := .tuple #[rlV ⟨0, 0, 0⟩, .bool false, .bool false]) (by have q := HS1.out; simp [results, Tryd.results103, go_sem, rlV, q]) rfl ?_
        have hf : findS c = (⟨0, 0, 0⟩, false, false) := by
          unfold findS
          rw [find_none (by rw [HUP.out]; exact HN.out)]
        exact ⟨by rw [hf], bel_set3 HB.out _ _ _⟩
end Go.Proofs.YtefajplbgmikdaaDoor

/-
  The walks of lex.kind, lex.run and lex.number.
-/
namespace Go.Proofs.YtefajplbgmikdaaDoor
open Go.RowKit

theorem kind_any (c : Nat) (w : World) : Calls Tryd.prog 59 #[.int .i32 c] w fun e w' => e = .returned (.int .i64 (kd c)) ∧ w = w' := by
  unfold kd
  by_cases h1 : c = 32
  · subst h1
    go_enter Tryd.func59, Tryd.ntmps59
    go_wp2
    go_ret
    exact ⟨rfl, rfl⟩
  by_cases h2 : c = 44
  · subst h2
    go_enter Tryd.func59, Tryd.ntmps59
    go_wp2
    go_ret
    exact ⟨rfl, rfl⟩
  by_cases h6 : c = 45
  · subst h6
    go_enter Tryd.func59, Tryd.ntmps59
    go_wp2
    go_ret
    exact ⟨rfl, rfl⟩
  by_cases h7 : c = 10
  · subst h7
    go_enter Tryd.func59, Tryd.ntmps59
    go_wp2
    go_ret
    exact ⟨rfl, rfl⟩
  have e1 : ((c : Int) == 32) = false := by simp; omega
  have e2 : ((c : Int) == 44) = false := by simp; omega
  have e6 : ((c : Int) == 45) = false := by simp; omega
  have e7 : ((c : Int) == 10) = false := by simp; omega
  rw [if_neg (by omega)]
  by_cases h3 : 97 ≤ c ∧ c ≤ 122
  · have a := h3.1
    have b := h3.2
    rw [if_pos (.inl h3)]
    have d1 : decide ((97 : Int) ≤ c) = true := decide_eq_true (by omega)
    have d2 : decide ((c : Int) ≤ 122) = true := decide_eq_true (by omega)
    clear h1 h2 h6 h7 h3
    go_enter Tryd.func59, Tryd.ntmps59
    go_wp2
    go_ret
    exact ⟨rfl, rfl⟩
  by_cases h4 : 65 ≤ c ∧ c ≤ 90
  · rw [if_pos (.inr h4)]
    have d1 : decide ((97 : Int) ≤ c) = false := decide_eq_false (by omega)
    have d2 : decide ((65 : Int) ≤ c) = true := decide_eq_true (by omega)
    have d3 : decide ((c : Int) ≤ 90) = true := decide_eq_true (by omega)
    clear h1 h2 h6 h7 h3 h4
    go_enter Tryd.func59, Tryd.ntmps59
    go_wp2
    go_ret
    exact ⟨rfl, rfl⟩
  rw [if_neg (by omega)]
  by_cases h5 : 48 ≤ c ∧ c ≤ 57
  · rw [if_pos h5]
    have d1 : decide ((97 : Int) ≤ c) = false := decide_eq_false (by omega)
    have d2 : decide ((65 : Int) ≤ c) = false := decide_eq_false (by omega)
    have d3 : decide ((48 : Int) ≤ c) = true := decide_eq_true (by omega)
    have d4 : decide ((c : Int) ≤ 57) = true := decide_eq_true (by omega)
    clear h1 h2 h6 h7 h3 h4 h5
    go_enter Tryd.func59, Tryd.ntmps59
    go_wp2
    go_ret
    exact ⟨rfl, rfl⟩
  rw [if_neg h5, if_neg h6, if_neg h7]
  by_cases a : 97 ≤ c
  · have d1 : decide ((97 : Int) ≤ c) = true := decide_eq_true (by omega)
    have d2 : decide ((c : Int) ≤ 122) = false := decide_eq_false (by omega)
    have d3 : decide ((65 : Int) ≤ c) = true := decide_eq_true (by omega)
    have d4 : decide ((c : Int) ≤ 90) = false := decide_eq_false (by omega)
    have d5 : decide ((48 : Int) ≤ c) = true := decide_eq_true (by omega)
    have d6 : decide ((c : Int) ≤ 57) = false := decide_eq_false (by omega)
    clear h1 h2 h6 h7 h3 h4 h5 a
    go_enter Tryd.func59, Tryd.ntmps59
    go_wp2
    go_ret
    exact ⟨rfl, rfl⟩
  by_cases b : 65 ≤ c
  · have d1 : decide ((97 : Int) ≤ c) = false := decide_eq_false (by omega)
    have d3 : decide ((65 : Int) ≤ c) = true := decide_eq_true (by omega)
    have d4 : decide ((c : Int) ≤ 90) = false := decide_eq_false (by omega)
    have d5 : decide ((48 : Int) ≤ c) = true := decide_eq_true (by omega)
    have d6 : decide ((c : Int) ≤ 57) = false := decide_eq_false (by omega)
    clear h1 h2 h6 h7 h3 h4 h5 a b
    go_enter Tryd.func59, Tryd.ntmps59
    go_wp2
    go_ret
    exact ⟨rfl, rfl⟩
  by_cases d : 48 ≤ c
  · have d1 : decide ((97 : Int) ≤ c) = false := decide_eq_false (by omega)
    have d3 : decide ((65 : Int) ≤ c) = false := decide_eq_false (by omega)
    have d5 : decide ((48 : Int) ≤ c) = true := decide_eq_true (by omega)
    have d6 : decide ((c : Int) ≤ 57) = false := decide_eq_false (by omega)
    clear h1 h2 h6 h7 h3 h4 h5 a b d
    go_enter Tryd.func59, Tryd.ntmps59
    go_wp2
    go_ret
    exact ⟨rfl, rfl⟩
  · have d1 : decide ((97 : Int) ≤ c) = false := decide_eq_false (by omega)
    have d3 : decide ((65 : Int) ≤ c) = false := decide_eq_false (by omega)
    have d5 : decide ((48 : Int) ≤ c) = false := decide_eq_false (by omega)
    clear h1 h2 h6 h7 h3 h4 h5 a b d
    go_enter Tryd.func59, Tryd.ntmps59
    go_wp2
    go_ret
    exact ⟨rfl, rfl⟩

/-! ### run -/
theorem dec_pos (s : ByteArray) (pos : Nat) (h : pos < s.size) : 1 ≤ (Utf8.decode s pos).2 := by
  by_cases ha : (s[pos]'h).toNat < 128
  · rw [decode_ascii s pos h ha]; exact Nat.le_refl _
  · exact (decode_high s pos h (by omega)).2
/-- The list of a text's bytes. -/
abbrev bl (s : ByteArray) : List UInt8 := s.data.toList
theorem bl_length (s : ByteArray) : (bl s).length = s.size := rfl
theorem bl_drop (s : ByteArray) (pos : Nat) (h : pos < s.size) : (bl s).drop pos = s[pos]'h :: (bl s).drop (pos + 1) := by
  rw [List.drop_eq_getElem_cons (by simpa using h)]
  rfl
/-- A rune read is the byte itself, one byte long, or one of no kind. -/
theorem dec_kd (s : ByteArray) (pos : Nat) (h : pos < s.size) : kd (Utf8.decode s pos).1 = kd (s[pos]'h).toNat ∧ ((s[pos]'h).toNat < 128 → Utf8.decode s pos = ((s[pos]'h).toNat, 1)) := by
  by_cases ha : (s[pos]'h).toNat < 128
  · rw [decode_ascii s pos h ha]; exact ⟨rfl, fun _ => rfl⟩
  · refine ⟨?_, fun h => absurd h ha⟩
    rw [kd_high (c := (s[pos]'h).toNat) (by omega), kd_high (c := (Utf8.decode s pos).1) (decode_high s pos h (by omega)).1]
theorem iter_pos (w : World) (s : ByteArray) (p : Nat) : (w.iter s p).iterPos w.heap.size = p := by
  have : (w.iter s p).heap[w.heap.size]? = some (.stringIter s p) := Array.getElem?_push_size
  simp [World.iterPos, this]

def RunAt (s : ByteArray) (k pos : Nat) : Prop := runL k (bl s) = pos + runL k ((bl s).drop pos)
set_option maxHeartbeats 400000 in
theorem run_any (s : ByteArray) (k : Nat) (hk : k ≠ 0) (w : World) : Calls Tryd.prog 60 #[.string s, .int .i64 k] w fun e w' => e = .returned (.int .i64 (runL k (bl s))) ∧ ∃ o, w' = w.alloc o := by
  go_enter Tryd.func60, Tryd.ntmps60
  go_wp2
  go_loopw [5, 6] (fun i c w' => ∃ pos, w' = w.iter s pos ∧ pos ≤ s.size ∧ RunAt s k pos) (fun _ _ w' => s.size - w'.iterPos w.heap.size)
  case atStart => exact ⟨0, rfl, by omega, by simp [RunAt]⟩
  case round =>
    obtain ⟨pos, rfl, hp, hR⟩ := hrel
    have HR := Lib.hid hR
    clear hR
    have HB : Hid (∀ p, ∃ o, w.iter s p = w.alloc o) := fun p => ⟨_, rfl⟩
    by_cases h : pos < s.size
    · have hnx := fun ty => run_next_any (P := Tryd.prog) w s pos ty h
      have hd := dec_kd s pos h
      have hdp := dec_pos s pos h
      obtain ⟨c, d, hcd⟩ : ∃ c d, Utf8.decode s pos = (c, d) := ⟨_, _, rfl⟩
      rw [hcd] at hd hdp
      simp only [hcd] at hnx
      dsimp only at hd hdp
      have HD := Lib.hid hd
      clear hd hcd
      by_cases he : kd c = k
      · have hne : ((kd c : Int) != k) = false := by simp; omega
        have HE := Lib.hid he
        have HX : Hid (RunAt s k (pos + d) ∧ pos + d ≤ s.size) := by
          have hlt := kd_lt (c := c) (by omega)
          have h1 : (s[pos]'h).toNat < 128 := kd_lt (by rw [← HD.out.1, HE.out]; exact hk)
          have h2 := HD.out.2 h1
          obtain ⟨_, rfl⟩ := Prod.mk.inj h2
          refine ⟨?_, by omega⟩
          have := HR.out
          unfold RunAt at this ⊢
          rw [this, bl_drop s pos h, runL, if_pos (by rw [← HD.out.1, HE.out])]
          omega
        clear he
        go_wp2_with (first | (go_at_call 59; (with_reducible refine (kind_any c _).mono ?_); rintro e w1 ⟨rfl, rfl⟩))
        go_roundw
        case rel => exact ⟨_, rfl, HX.out.2, HX.out.1⟩
        case measure => rw [iter_pos, iter_pos]; omega
      · have hne : ((kd c : Int) != k) = true := by simp; omega
        have HE := Lib.hid he
        have HX : Hid (((pos : Nat) : Int) = runL k (bl s)) := by
          have := HR.out
          unfold RunAt at this
          rw [bl_drop s pos h, runL, if_neg (by rw [← HD.out.1]; exact HE.out)] at this
          show ((pos : Nat) : Int) = runL k (bl s)
          omega
        clear he
        go_wp2_with (first | (go_at_call 59; (with_reducible refine (kind_any c _).mono ?_); rintro e w1 ⟨rfl, rfl⟩))
        go_ret
        exact ⟨by rw [← HX.out]; rfl, HB.out _⟩
    · have hnx := fun ty => run_next_end (P := Tryd.prog) w s pos ty h
      have HX : Hid (((s.size : Nat) : Int) = runL k (bl s)) := by
        have := HR.out
        unfold RunAt at this
        obtain rfl : pos = s.size := by omega
        rw [List.drop_of_length_le (by simp), runL] at this
        show ((s.size : Nat) : Int) = runL k (bl s)
        omega
      go_wp2
      go_ret
      exact ⟨by rw [← HX.out]; rfl, HB.out _⟩

/-! ### number -/
def DigL (l : List UInt8) : Prop := ∀ c ∈ l, 48 ≤ c.toNat ∧ c.toNat ≤ 57
theorem numN_le : ∀ (l : List UInt8) (n : Nat), DigL l → n ≤ 4611686018427387904 → numN n l ≤ 4611686018427387904
  | [], n, _, h => h
  | c :: r, n, hd, h => by
    unfold numN
    split
    · exact Nat.le_refl _
    · have := hd c (by simp)
      exact numN_le r _ (fun x hx => hd x (by simp [hx])) (by omega)
def NumAt (s : ByteArray) (pos n : Nat) : Prop := numN 0 (bl s) = numN n ((bl s).drop pos) ∧ n ≤ 4611686018427387904
set_option maxHeartbeats 400000 in
theorem number_any (s : ByteArray) (hd : DigL (bl s)) (w : World) : Calls Tryd.prog 61 #[.string s] w fun e w' => e = .returned (.int .i64 (numN 0 (bl s))) ∧ ∃ o, w' = w.alloc o := by
  have HD := Lib.hid hd
  clear hd
  go_enter Tryd.func61, Tryd.ntmps61
  go_wp2
  go_loopw [3, 5, 6] (fun v c d w' => ∃ pos n : Nat, w' = w.iter s pos ∧ v = .int .i64 n ∧ pos ≤ s.size ∧ NumAt s pos n) (fun _ _ _ w' => s.size - w'.iterPos w.heap.size)
  case atStart => exact ⟨0, 0, rfl, rfl, by omega, by simp [NumAt]⟩
  case round =>
    obtain ⟨pos, n, rfl, rfl, hp, hR⟩ := hrel
    have HR := Lib.hid hR
    clear hR
    have HB : Hid (∀ p, ∃ o, w.iter s p = w.alloc o) := fun p => ⟨_, rfl⟩
    by_cases h : pos < s.size
    · have hnx := fun ty => run_next_any (P := Tryd.prog) w s pos ty h
      obtain ⟨b, hb⟩ : ∃ b, (s[pos]'h) = b := ⟨_, rfl⟩
      have hdig : 48 ≤ b.toNat ∧ b.toNat ≤ 57 := HD.out b (by rw [← hb]; exact Array.getElem_mem_toList _)
      have hdc := (dec_kd s pos h).2 (by rw [hb]; omega)
      rw [hb] at hdc
      simp only [hdc] at hnx
      obtain ⟨d, hdd⟩ : ∃ d, b.toNat = 48 + d := ⟨b.toNat - 48, by omega⟩
      have hd9 : d ≤ 9 := by omega
      have hn := HR.out.2
      have HS : Hid (numN n ((bl s).drop pos) = if (4611686018427387904 - d) / 10 < n then 4611686018427387904 else numN (n * 10 + d) ((bl s).drop (pos + 1))) := by
        show _ = _
        rw [bl_drop s pos h, hb, numN]
        rw [show b.toNat - 48 = d by omega]
      obtain ⟨c, hc⟩ : ∃ c, b.toNat = c := ⟨_, rfl⟩
      simp only [hc] at hnx
      have e1 : (c : Int) - 48 = (d : Int) := by omega
      have c2 : c ≤ 57 := by omega
      clear hdd hdc hb hdig hc
      by_cases hg : (4611686018427387904 - d) / 10 < n
      · have hg' : decide ((4611686018427387904 - (d : Int)) / 10 < (n : Int)) = true := decide_eq_true (by omega)
        have HX : Hid (numN 0 (bl s) = 4611686018427387904) := by
          have := HR.out.1
          rw [HS.out, if_pos hg] at this
          exact this
        clear hg
        go_wp2
        go_ret
        exact ⟨by rw [HX.out]; rfl, HB.out _⟩
      · have hg' : decide ((4611686018427387904 - (d : Int)) / 10 < (n : Int)) = false := decide_eq_false (by omega)
        have HX : Hid (NumAt s (pos + 1) (n * 10 + d)) := by
          have := HR.out.1
          rw [HS.out, if_neg hg] at this
          exact ⟨this, by omega⟩
        have hn2 : n * 10 + d ≤ 4611686018427387904 := HX.out.2
        clear hg
        go_wp2
        go_roundw
        case rel => exact ⟨_, _, rfl, by go_num, by omega, HX.out⟩
        case measure => rw [iter_pos, iter_pos]; omega
    · have hnx := fun ty => run_next_end (P := Tryd.prog) w s pos ty h
      have HX : Hid (numN 0 (bl s) = n) := by
        have := HR.out.1
        rw [List.drop_of_length_le (by simp; omega), numN] at this
        exact this
      go_wp2
      go_ret
      exact ⟨by rw [HX.out]; rfl, HB.out _⟩
end Go.Proofs.YtefajplbgmikdaaDoor

/-
  The walk of lex.Cut: the tokens of a text, or where it is wrong.
-/
namespace Go.Proofs.YtefajplbgmikdaaDoor
open Go.RowKit

/-- A token's cells. -/
def tokC (t : Tok) : List Value := [.int .i64 t.kind, .string ⟨t.s.toArray⟩, .int .i64 t.n, .int .i64 t.place]
def toksC (l : List Tok) : List Value := l.flatMap tokC
theorem toksC_snoc (l : List Tok) (t : Tok) : toksC (l ++ [t]) = toksC l ++ tokC t := by simp [toksC]
theorem infoTok : (Tryd.prog.info? 106).map (fun i => (i.zero, i.size, i.bytes)) = some (some (.agg #[.int .i64 0, .string ⟨#[]⟩, .int .i64 0, .int .i64 0]), 4, 40) := by kernel_rfl

theorem own_iterAt {w : World} {B e size n : Nat} {v : Value} {xs : List Value} {k : Nat} {s : ByteArray} {pos : Nat} (h : w.ownsRow B e size v n xs) (hk : w.heap[k]? = some (.stringIter s pos)) (pos' : Nat) : (w.iterAt k s pos').ownsRow B e size v n xs := by
  refine ⟨h.1, ?_⟩
  rcases h.2 with h0 | ⟨g, cap, cur, hv, hb, hg, rest⟩
  · exact .inl h0
  · refine .inr ⟨g, cap, cur, hv, hb, ?_, rest⟩
    rw [Lib.iterAt_other _ _ _ _ _ (fun e => by subst e; rw [hk] at hg; cases hg)]
    exact hg
theorem own_ne_iter {w : World} {B e size n : Nat} {v : Value} {xs : List Value} {k : Nat} {s : ByteArray} {pos : Nat} (h : w.ownsRow B e size v n xs) (hk : w.heap[k]? = some (.stringIter s pos)) : some k ≠ v.ownBlock := by
  rcases h.2 with ⟨rfl, _⟩ | ⟨g, cap, cur, rfl, hb, hg, rest⟩
  · simp [Value.ownBlock]
  · intro e
    simp only [Value.ownBlock, Option.some.injEq] at e
    subst e
    rw [hk] at hg
    cases hg

def emap (acc : List Tok) : Except Nat (List Tok) → Except Nat (List Tok)
  | .ok l => .ok (acc ++ l)
  | .error i => .error i
theorem emap_cons (acc : List Tok) (t : Tok) (x : Except Nat (List Tok)) : emap acc (x.map (t :: ·)) = emap (acc ++ [t]) x := by
  cases x <;> simp [Except.map, emap]
theorem emap_nil (x : Except Nat (List Tok)) : emap [] x = x := by cases x <;> rfl
/-- Where the loop stands. -/
def CutAt (s : ByteArray) (pos nx : Nat) (acc : List Tok) : Prop := cutL (bl s) 0 0 = emap acc (cutL ((bl s).drop pos) pos nx)
def AscAt (s : ByteArray) (pos nx : Nat) : Prop := ∀ j (h : j < s.size), pos ≤ j → j < nx → (s[j]'h).toNat < 128
def CutPost (s : ByteArray) (w : World) (e : Ending) (w' : World) : Prop :=
  Bel w w' ∧ match cutL (bl s) 0 0 with
    | .error i => e = .returned (.tuple #[.slice none 0 0, .int .i64 i, .int .i64 20])
    | .ok l => ∃ v, e = .returned (.tuple #[v, .int .i64 0, .int .i64 0]) ∧ w'.ownsRow w.heap.size 106 4 v l.length (toksC l)
theorem cutPost_bad {s : ByteArray} {w : World} {e : Ending} {w' : World} {i : Nat} (h : cutL (bl s) 0 0 = .error i) (he : e = .returned (.tuple #[.slice none 0 0, .int .i64 i, .int .i64 20])) (hb : Bel w w') : CutPost s w e w' := by
  unfold CutPost; rw [h]; exact ⟨hb, he⟩
theorem cutPost_ok {s : ByteArray} {w : World} {e : Ending} {w' : World} {l : List Tok} {v : Value} (h : cutL (bl s) 0 0 = .ok l) (he : e = .returned (.tuple #[v, .int .i64 0, .int .i64 0])) (ho : w'.ownsRow w.heap.size 106 4 v l.length (toksC l)) (hb : Bel w w') : CutPost s w e w' := by
  unfold CutPost; rw [h]; exact ⟨hb, v, he, ho⟩

theorem cut_skip {s : ByteArray} {pos nx : Nat} {acc : List Tok} (h : CutAt s pos nx acc) (hp : pos < s.size) (hlt : pos < nx) : CutAt s (pos + 1) nx acc := by
  unfold CutAt at h ⊢
  rw [bl_drop s pos hp, cutL, if_pos hlt] at h
  exact h
theorem cut_blank {s : ByteArray} {pos nx : Nat} {acc : List Tok} (h : CutAt s pos nx acc) (hp : pos < s.size) (hlt : ¬ pos < nx) (hk : kd (s[pos]'hp).toNat = 1) : CutAt s (pos + 1) nx acc := by
  unfold CutAt at h ⊢
  rw [bl_drop s pos hp, cutL, if_neg hlt, if_pos hk] at h
  exact h
theorem cut_bad {s : ByteArray} {pos nx : Nat} {acc : List Tok} (h : CutAt s pos nx acc) (hp : pos < s.size) (hlt : ¬ pos < nx) (hk : kd (s[pos]'hp).toNat = 0) : cutL (bl s) 0 0 = .error pos := by
  unfold CutAt at h
  rw [bl_drop s pos hp, cutL, if_neg hlt] at h
  simpa [hk, emap] using h
theorem cut_end {s : ByteArray} {pos nx : Nat} {acc : List Tok} (h : CutAt s pos nx acc) (hp : ¬ pos < s.size) : cutL (bl s) 0 0 = .ok acc := by
  unfold CutAt at h
  rw [List.drop_of_length_le (by rw [bl_length]; omega)] at h
  simpa [cutL, emap] using h
theorem cut_letter {s : ByteArray} {pos nx : Nat} {acc : List Tok} (h : CutAt s pos nx acc) (hp : pos < s.size) (hlt : ¬ pos < nx) (hk : kd (s[pos]'hp).toNat = 2) :
    CutAt s (pos + 1) (pos + runL 2 ((bl s).drop pos)) (acc ++ [⟨1, ((bl s).drop pos).take (runL 2 ((bl s).drop pos)), 0, pos⟩]) := by
  unfold CutAt at h ⊢
  rw [h, ← emap_cons]
  conv => lhs; rw [bl_drop s pos hp, cutL, if_neg hlt]
  simp only [hk]
  rw [bl_drop s pos hp]
  rfl
theorem cut_digit {s : ByteArray} {pos nx : Nat} {acc : List Tok} (h : CutAt s pos nx acc) (hp : pos < s.size) (hlt : ¬ pos < nx) (hk : kd (s[pos]'hp).toNat = 3) :
    CutAt s (pos + 1) (pos + runL 3 ((bl s).drop pos)) (acc ++ [⟨2, [], numN 0 (((bl s).drop pos).take (runL 3 ((bl s).drop pos))), pos⟩]) := by
  unfold CutAt at h ⊢
  rw [h, ← emap_cons]
  conv => lhs; rw [bl_drop s pos hp, cutL, if_neg hlt]
  simp only [hk]
  rw [bl_drop s pos hp]
  rfl
theorem cut_minus {s : ByteArray} {pos nx : Nat} {acc : List Tok} (h : CutAt s pos nx acc) (hp : pos < s.size) (hlt : ¬ pos < nx) (hk : kd (s[pos]'hp).toNat = 4) (h0 : runL 3 ((bl s).drop (pos + 1)) ≠ 0) :
    CutAt s (pos + 1) (pos + (runL 3 ((bl s).drop (pos + 1)) + 1)) (acc ++ [⟨2, [], -(numN 0 (((bl s).drop (pos + 1)).take (runL 3 ((bl s).drop (pos + 1)))) : Int), pos⟩]) := by
  unfold CutAt at h ⊢
  rw [h, ← emap_cons]
  conv => lhs; rw [bl_drop s pos hp, cutL, if_neg hlt]
  simp [hk, h0]
theorem cut_minus0 {s : ByteArray} {pos nx : Nat} {acc : List Tok} (h : CutAt s pos nx acc) (hp : pos < s.size) (hlt : ¬ pos < nx) (hk : kd (s[pos]'hp).toNat = 4) (h0 : runL 3 ((bl s).drop (pos + 1)) = 0) : cutL (bl s) 0 0 = .error pos := by
  unfold CutAt at h
  rw [bl_drop s pos hp, cutL, if_neg hlt] at h
  simpa [hk, emap, h0] using h
theorem cut_line {s : ByteArray} {pos nx : Nat} {acc : List Tok} (h : CutAt s pos nx acc) (hp : pos < s.size) (hlt : ¬ pos < nx) (hk : kd (s[pos]'hp).toNat = 5) :
    CutAt s (pos + 1) (pos + 1) (acc ++ [⟨3, [], 0, pos⟩]) := by
  unfold CutAt at h ⊢
  rw [h, ← emap_cons]
  conv => lhs; rw [bl_drop s pos hp, cutL, if_neg hlt]
  simp [hk]
end Go.Proofs.YtefajplbgmikdaaDoor

/-
  The walk of lex.Cut.
-/
namespace Go.Proofs.YtefajplbgmikdaaDoor
open Go.RowKit

theorem asc_next {s : ByteArray} {pos nx : Nat} (h : AscAt s pos nx) : AscAt s (pos + 1) nx := fun j hj h1 h2 => h j hj (by omega) h2
theorem asc_none (s : ByteArray) {pos nx : Nat} (h : nx ≤ pos) : AscAt s pos nx := fun _ _ _ _ => by omega
theorem asc_run {s : ByteArray} {q k : Nat} (hk : k ≠ 0) : AscAt s q (q + runL k ((bl s).drop q)) := fun j hj h1 h2 => by
  have := runL_get k ((bl s).drop q) (j - q) (by rw [List.length_drop, bl_length]; omega) (by omega)
  refine kd_lt ?_
  have e : ((bl s).drop q)[j - q]'(by rw [List.length_drop, bl_length]; omega) = s[j]'hj := by
    simp only [List.getElem_drop, show q + (j - q) = j by omega]
    rfl
  rw [e] at this
  omega
theorem run_le {s : ByteArray} {q k : Nat} (h : q ≤ s.size) : q + runL k ((bl s).drop q) ≤ s.size := by
  have := runL_le k ((bl s).drop q)
  rw [List.length_drop, bl_length] at this
  omega
theorem dig_run (s : ByteArray) (q : Nat) : DigL (((bl s).drop q).take (runL 3 ((bl s).drop q))) := fun c hc => by
  obtain ⟨j, hj, rfl⟩ := List.mem_iff_getElem.1 hc
  have hj' := hj
  rw [List.length_take] at hj'
  rw [List.getElem_take]
  exact kd_dig (runL_get 3 _ j (by omega) (by omega))
theorem bl_from (s : ByteArray) (q : Nat) : bl (s.extract q s.size) = (bl s).drop q := by
  simp only [bl, ByteArray.data_extract, Array.toList_extract, List.extract_eq_take_drop]
  exact List.take_of_length_le (by simp)
theorem bl_part (s : ByteArray) (q n : Nat) : bl (s.extract q (q + n)) = ((bl s).drop q).take n := by
  simp [bl, ByteArray.data_extract]
theorem mk_bl (s : ByteArray) : (⟨(bl s).toArray⟩ : ByteArray) = s := by simp [bl]

/-- A box of four cells behind a world. -/
def Box4 (W V : World) (c0 c1 c2 c3 : Value) : Prop := Bel W V ∧ V.cell? ⟨W.heap.size, 0, none⟩ = some c0 ∧ V.cell? ⟨W.heap.size, 1, none⟩ = some c1 ∧ V.cell? ⟨W.heap.size, 2, none⟩ = some c2 ∧ V.cell? ⟨W.heap.size, 3, none⟩ = some c3
theorem box4 (W : World) (c0 c1 c2 c3 : Value) (t : TypeId) (o : Obj) : Box4 W (((W.alloc (.cells #[c0, c1, c2, c3] t)).alloc o).drew) c0 c1 c2 c3 := by
  have h : ∀ j v, (#[c0, c1, c2, c3] : Array Value)[j]? = some v → (((W.alloc (.cells #[c0, c1, c2, c3] t)).alloc o).drew).cell? ⟨W.heap.size, j, none⟩ = some v := fun j v hj => by
    have h1 : (W.alloc (.cells #[c0, c1, c2, c3] t)).cell? ⟨W.heap.size, j, none⟩ = some v := by rw [World.cell?_alloc_mark]; exact hj
    exact ((Bel.refl (W.alloc (.cells #[c0, c1, c2, c3] t))).alloc o).cell h1
  exact ⟨(((Bel.refl W).alloc _).alloc _).drew, h 0 _ rfl, h 1 _ rfl, h 2 _ rfl, h 3 _ rfl⟩
theorem push_rel {w W V w3 : World} {s : ByteArray} {p : Nat} {v v3 : Value} {acc : List Tok} {t : Tok} {cs : List Value} (hV : Bel W V) (ho : W.ownsRow w.heap.size 106 4 v acc.length (toksC acc))
    (hit : W.heap[w.heap.size]? = some (.stringIter s p)) (hb : Below w.heap.size w W) (ho3 : w3.ownsRow w.heap.size 106 4 v3 (acc.length + 1) (toksC acc ++ cs)) (hg : V.grownBy w3 v.ownBlock) (hc : cs = tokC t) :
    w3.ownsRow w.heap.size 106 4 v3 (acc ++ [t]).length (toksC (acc ++ [t])) ∧ w3.heap[w.heap.size]? = some (.stringIter s p) ∧ Below w.heap.size w w3 := by
  subst hc
  have hlt := (Array.getElem?_eq_some_iff.1 hit).1
  refine ⟨by rw [toksC_snoc, List.length_append]; exact ho3, ?_, ?_⟩
  · rw [hg.block _ (Nat.lt_of_lt_of_le hlt hV.size) (own_ne_iter ho hit), Below.block hV _ hlt]
    exact hit
  · exact ((Bel.trans hb hV).grown hg (Nat.le_trans (Below.size hb) hV.size) (fun k hk => (ho.lt k hk).1))
theorem run2_any (s : ByteArray) (q : Nat) (w : World) : Calls Tryd.prog 60 #[.string (s.extract q s.size), .int .i64 2] w fun e w' => e = .returned (.int .i64 (runL 2 ((bl s).drop q))) ∧ ∃ o, w' = w.alloc o := by
  rw [← bl_from]
  exact run_any (s.extract q s.size) 2 (by decide) w
theorem run3_any (s : ByteArray) (q : Nat) (w : World) : Calls Tryd.prog 60 #[.string (s.extract q s.size), .int .i64 3] w fun e w' => e = .returned (.int .i64 (runL 3 ((bl s).drop q))) ∧ ∃ o, w' = w.alloc o := by
  rw [← bl_from]
  exact run_any (s.extract q s.size) 3 (by decide) w
theorem num_any (s : ByteArray) (q n : Nat) (h : n = runL 3 ((bl s).drop q)) (w : World) : Calls Tryd.prog 61 #[.string (s.extract q (q + n))] w fun e w' => e = .returned (.int .i64 (numN 0 (((bl s).drop q).take n))) ∧ ∃ o, w' = w.alloc o := by
  rw [← bl_part]
  exact number_any _ (by rw [bl_part, h]; exact dig_run s q) w
set_option maxHeartbeats 1000000 in
set_option maxRecDepth 100000 in
theorem cut_any (s : ByteArray) (w : World) : Calls Tryd.prog 38 #[.string s] w fun e w' => (1048576 < s.size ∧ e = .returned (.tuple #[.slice none 0 0, .int .i64 0, .int .i64 22]) ∧ Bel w w') ∨ (s.size ≤ 1048576 ∧ CutPost s w e w') := by
  by_cases hbig : 1048576 < s.size
  · have hd : decide ((1048576 : Int) < s.size) = true := decide_eq_true (by omega)
    refine Calls.mono (?_ : Calls _ _ _ _ fun e w' => e = .returned (.tuple #[.slice none 0 0, .int .i64 0, .int .i64 22]) ∧ Bel w w') fun e w' h => .inl ⟨hbig, h⟩
    clear hbig
    go_enter Tryd.func38, Tryd.ntmps38
    go_wp2
    refine bodyPost_ret (v := .tuple #[.slice none 0 0, .int .i64 0, .int .i64 22]) (by simp [results, Tryd.results38, go_sem]) rfl ⟨rfl, Bel.refl _⟩
  have hd : decide ((1048576 : Int) < s.size) = false := decide_eq_false (by omega)
  have hs : s.size ≤ 1048576 := by omega
  refine Calls.mono (?_ : Calls _ _ _ _ (CutPost s w)) fun e w' h => .inr ⟨hs, h⟩
  clear hbig
  go_enter Tryd.func38, Tryd.ntmps38
  go_wp2
  go_loopg [5, 6] s.size (fun gf s5 s6 wx => ∃ (pos nx : Nat) (acc : List Tok), s6 = .int .i64 nx ∧ nx ≤ s.size ∧ pos ≤ s.size ∧ wx.ownsRow w.heap.size 106 4 s5 acc.length (toksC acc) ∧
    wx.heap[w.heap.size]? = some (.stringIter s pos) ∧ Below w.heap.size w wx ∧ CutAt s pos nx acc ∧ AscAt s pos nx ∧ acc.length ≤ pos ∧ s.size ≤ pos + gf)
  case atStart =>
    exact ⟨0, 0, [], rfl, by omega, by omega, World.ownsRow_nil _ _ _ _, World.iter_heap w s 0, (Bel.refl w).alloc _, by simp [CutAt, emap_nil], asc_none _ (Nat.le_refl _), Nat.le_refl _, by omega⟩
  case round =>
    obtain ⟨pos, nx, acc, rfl, hnx0, hps, hown, hit, hbw, hC, hA, hal, hfu⟩ := hrel
    by_cases hlt : pos < s.size
    · obtain ⟨g', rfl⟩ : ∃ g', gk = g' + 1 := ⟨gk - 1, by omega⟩
      have hnx : ∀ ty, (Instr.next (.pointer (some ⟨w.heap.size, 0, none⟩)) true ty).run Tryd.prog wr = _ := fun ty => Lib.run_next_any_at wr w.heap.size s pos ty hit hlt
      have hwd := dec_pos s pos hlt
      obtain ⟨R, hR⟩ : ∃ R, (Utf8.decode s pos).1 = R := ⟨_, rfl⟩
      obtain ⟨K, hK⟩ : ∃ K, (Utf8.decode s pos).2 = K := ⟨_, rfl⟩
      have hkd := dec_kd s pos hlt
      rw [hR, hK] at hnx
      have hit2 := Lib.iterAt_heap wr w.heap.size s pos (pos + K) hit
      have hbw2 := Lib.below_iterAt hbw (k := w.heap.size) (Nat.le_refl _) s (pos + K)
      have hown2 := own_iterAt hown hit (pos + K)
      obtain ⟨W, hWd⟩ : ∃ W, wr.iterAt w.heap.size s (pos + K) = W := ⟨_, rfl⟩
      rw [hWd] at hnx hit2 hbw2 hown2
      clear hown hit hbw hWd
      have HOWN := Lib.hid hown2
      have HBW := Lib.hid hbw2
      have HIT := Lib.hid hit2
      have HC := Lib.hid hC
      have HA := Lib.hid hA
      clear hown2 hbw2 hit2 hC hA
      by_cases hsk : pos < nx
      · -- what is cut already
        have h128 := HA.out pos hlt (Nat.le_refl _) hsk
        have hdc := hkd.2 h128
        have hK1 : K = 1 := by rw [← hK, hdc]
        subst hK1
        have HC2 := Lib.hid (cut_skip HC.out hlt hsk)
        clear hR hK hdc hkd h128
        go_wp2
        go_roundg g'
        case measure => omega
        case rel => exact ⟨pos + 1, nx, acc, rfl, hnx0, by omega, HOWN.out, HIT.out, HBW.out, HC2.out, asc_next HA.out, by omega, by omega⟩
      obtain ⟨kk, hkk⟩ : ∃ kk, kd R = kk := ⟨_, rfl⟩
      have hkb : kd (s[pos]'hlt).toNat = kk := by rw [← hkd.1, hR, hkk]
      have HKB := Lib.hid hkb
      by_cases hk0 : kk = 0
      · subst hk0
        have HCB := Lib.hid (cut_bad HC.out hlt hsk hkb)
        clear hkd hkb hR hK
        have kc := fun W => kind_any R W
        simp only [hkk] at kc
        go_wp2_with (first | (go_at_call 59; (with_reducible refine (kc _).mono ?_); rintro e w1 ⟨rfl, rfl⟩))
        exact bodyPost_ret (v := .tuple #[.slice none 0 0, .int .i64 pos, .int .i64 20]) (by simp [results, Tryd.results38, go_sem]) rfl (cutPost_bad HCB.out rfl (Bel.alloc HBW.out _))
      have hb0 := kd_lt (c := (s[pos]'hlt).toNat) (by omega)
      have hdc := hkd.2 hb0
      have hK1 : K = 1 := by rw [← hK, hdc]
      subst hK1
      have kc := fun W => kind_any R W
      simp only [hkk] at kc
      clear hR hK hdc hkd hb0 hkk
      by_cases hk1 : kk = 1
      · subst hk1
        have HC2 := Lib.hid (cut_blank HC.out hlt hsk hkb)
        clear hkb
        go_wp2_with (first | (go_at_call 59; (with_reducible refine (kc _).mono ?_); rintro e w1 ⟨rfl, rfl⟩))
        go_roundg g'
        case measure => omega
        case rel => exact ⟨pos + 1, nx, acc, rfl, hnx0, by omega, (Bel.alloc (Bel.refl W) _).own HOWN.out, (Below.heap_alloc _ _ _ (Array.getElem?_eq_some_iff.1 HIT.out).1).trans HIT.out, Bel.alloc HBW.out _, HC2.out, asc_next HA.out, by omega, by omega⟩
      by_cases hk2 : kk = 2
      · subst hk2
        have HC2 := Lib.hid (cut_letter HC.out hlt hsk hkb)
        have HN1 : 1 ≤ runL 2 ((bl s).drop pos) := by rw [bl_drop s pos hlt, runL_pos hkb]; omega
        have HA2 := Lib.hid (asc_next (asc_run (s := s) (q := pos) (k := 2) (by decide)))
        have hle := run_le (s := s) (q := pos) (k := 2) (by omega)
        have rc := fun W => run2_any s pos W
        generalize runL 2 ((bl s).drop pos) = n at HC2 HN1 HA2 hle rc
        clear hkb HC HA
        go_wp2_with (first
          | (go_at_call 59; (with_reducible refine (kc _).mono ?_); rintro e w1 ⟨rfl, rfl⟩)
          | (go_at_call 60; (with_reducible refine (rc _).mono ?_); rintro e w1 ⟨rfl, o1, rfl⟩))
        go_region
        have hcl : ∀ (c0 c1 c2 c3 : Value), Box4 W (((W.alloc (.cells #[c0, c1, c2, c3] 106)).alloc o1).drew) c0 c1 c2 c3 := fun c0 c1 c2 c3 => box4 _ _ _ _ _ _ _
        have hcl' := hcl (.int .i64 1) (.string (s.extract pos (pos + n))) (.int .i64 0) (.int .i64 pos)
        clear hcl
        generalize World.drew (World.alloc (World.alloc W _) o1) = V at hcl' ⊢
        obtain ⟨hb, hc0, hc1, hc2, hc3⟩ := hcl'
        have HB := Lib.hid hb
        clear hb
        have hmx : acc.length + 1 ≤ maxLen := by unfold maxLen; omega
        have hmb : (acc.length + 1) * 40 ≤ 140737488355328 := by omega
        have hst : (⟨(((bl s).drop pos).take n).toArray⟩ : ByteArray) = s.extract pos (pos + n) := by rw [← bl_part, mk_bl]
        have HST := Lib.hid hst
        clear hst
        go_wp2_with (first
          | (at_builtin; (refine wpList_push rfl (.tmp 86) (.tmp 88) 67 rfl w.heap.size 106 _ 4 40 Tryd.underlying67 infoTok rfl (by decide) u5 _ _ rfl (HB.out.own HOWN.out) _ _ _ rfl (by simp) rfl (by simp [Value.oneCell']) hmx hmb (Nat.le_trans (Below.size HBW.out) HB.out.size) ?_); intro v3 w3 hown3 hg3 _))
        have HR3 := Lib.hid (push_rel (t := ⟨1, ((bl s).drop pos).take n, 0, pos⟩) HB.out HOWN.out HIT.out HBW.out hown3 hg3 (by rw [tokC, HST.out]))
        clear hown3 hg3
        go_roundg g'
        case measure => omega
        case rel => exact ⟨pos + 1, pos + n, _, by go_num, hle, by omega, HR3.out.1, HR3.out.2.1, HR3.out.2.2, HC2.out, HA2.out, by simp; omega, by omega⟩
      have hmx : acc.length + 1 ≤ maxLen := by unfold maxLen; omega
      have hmb : (acc.length + 1) * 40 ≤ 140737488355328 := by omega
      by_cases hk3 : kk = 3
      · subst hk3
        have HC2 := Lib.hid (cut_digit HC.out hlt hsk hkb)
        have HN1 : 1 ≤ runL 3 ((bl s).drop pos) := by rw [bl_drop s pos hlt, runL_pos hkb]; omega
        have HA2 := Lib.hid (asc_next (asc_run (s := s) (q := pos) (k := 3) (by decide)))
        have hle := run_le (s := s) (q := pos) (k := 3) (by omega)
        have rc := fun W => run3_any s pos W
        have nc := fun W => num_any s pos _ rfl W
        have hq := numN_le _ 0 (dig_run s pos) (by decide)
        generalize runL 3 ((bl s).drop pos) = n at HC2 HN1 HA2 hle rc nc hq
        generalize numN 0 (((bl s).drop pos).take n) = q at HC2 nc hq
        clear hkb HC HA
        go_wp2_with (first
          | (go_at_call 59; (with_reducible refine (kc _).mono ?_); rintro e w1 ⟨rfl, rfl⟩)
          | (go_at_call 60; (with_reducible refine (rc _).mono ?_); rintro e w1 ⟨rfl, o1, rfl⟩)
          | (go_at_call 61; (with_reducible refine (nc _).mono ?_); rintro e w1 ⟨rfl, o2, rfl⟩)
          | (at_builtin; (refine wpList_push rfl (.tmp 86) (.tmp 88) 67 rfl w.heap.size 106 _ 4 40 Tryd.underlying67 infoTok rfl (by decide) u5 _ _ rfl ((((Bel.refl W).alloc _).alloc _ |>.alloc _).own HOWN.out) _ _ _ rfl (by simp) rfl (by simp [Value.oneCell']) hmx hmb (Nat.le_trans (Below.size HBW.out) (Bel.size (((Bel.refl W).alloc _).alloc _ |>.alloc _))) ?_); intro v3 w3 hown3 hg3 _))
        have HR3 := Lib.hid (push_rel (t := ⟨2, [], q, pos⟩) (((Bel.refl W).alloc _).alloc _ |>.alloc _) HOWN.out HIT.out HBW.out hown3 hg3 rfl)
        clear hown3 hg3
        go_roundg g'
        case measure => omega
        case rel => exact ⟨pos + 1, pos + n, _, by go_num, hle, by omega, HR3.out.1, HR3.out.2.1, HR3.out.2.2, HC2.out, HA2.out, by simp; omega, by omega⟩
      by_cases hk4 : kk = 4
      · subst hk4
        have rc := fun W => run3_any s (pos + 1) W
        by_cases hr0 : runL 3 ((bl s).drop (pos + 1)) = 0
        · have HCB := Lib.hid (cut_minus0 HC.out hlt hsk hkb hr0)
          rw [hr0] at rc
          have rc' : ∀ W, Calls Tryd.prog 60 #[.string (s.extract (pos + 1) s.size), .int .i64 3] W fun e w' => e = .returned (.int .i64 0) ∧ ∃ o, w' = W.alloc o := rc
          clear hkb HC HA hr0 rc
          go_wp2_with (first
            | (go_at_call 59; (with_reducible refine (kc _).mono ?_); rintro e w1 ⟨rfl, rfl⟩)
            | (go_at_call 60; (with_reducible refine (rc' _).mono ?_); rintro e w1 ⟨rfl, o1, rfl⟩))
          exact bodyPost_ret (v := .tuple #[.slice none 0 0, .int .i64 pos, .int .i64 20]) (by simp [results, Tryd.results38, go_sem]) rfl (cutPost_bad HCB.out rfl ((Bel.alloc HBW.out _).alloc _))
        · have HC2 := Lib.hid (cut_minus HC.out hlt hsk hkb hr0)
          have HA2 : Hid (AscAt s (pos + 1) (pos + 1 + runL 3 ((bl s).drop (pos + 1)))) := asc_run (s := s) (q := pos + 1) (k := 3) (by decide)
          have hle := run_le (s := s) (q := pos + 1) (k := 3) (by omega)
          have nc := fun W => num_any s (pos + 1) _ rfl W
          have hq := numN_le _ 0 (dig_run s (pos + 1)) (by decide)
          generalize runL 3 ((bl s).drop (pos + 1)) = n at HC2 HA2 hle rc nc hq hr0
          generalize numN 0 (((bl s).drop (pos + 1)).take n) = q at HC2 nc hq
          have hn0 : (n == 0) = false := by simpa using hr0
          rw [show pos + (n + 1) = pos + 1 + n by omega] at HC2
          clear hkb HC HA
          go_wp2_with (first
            | (go_at_call 59; (with_reducible refine (kc _).mono ?_); rintro e w1 ⟨rfl, rfl⟩)
            | (go_at_call 60; (with_reducible refine (rc _).mono ?_); rintro e w1 ⟨rfl, o1, rfl⟩)
            | (go_at_call 61; (with_reducible refine (nc _).mono ?_); rintro e w1 ⟨rfl, o2, rfl⟩)
            | (at_builtin; (refine wpList_push rfl (.tmp 86) (.tmp 88) 67 rfl w.heap.size 106 _ 4 40 Tryd.underlying67 infoTok rfl (by decide) u5 _ _ rfl ((((Bel.refl W).alloc _).alloc _ |>.alloc _).own HOWN.out) _ _ _ rfl (by simp) rfl (by simp [Value.oneCell']) hmx hmb (Nat.le_trans (Below.size HBW.out) (Bel.size (((Bel.refl W).alloc _).alloc _ |>.alloc _))) ?_); intro v3 w3 hown3 hg3 _))
          have HR3 := Lib.hid (push_rel (t := ⟨2, [], -(q : Int), pos⟩) (((Bel.refl W).alloc _).alloc _ |>.alloc _) HOWN.out HIT.out HBW.out hown3 hg3 rfl)
          clear hown3 hg3
          go_roundg g'
          case measure => omega
          case rel => exact ⟨pos + 1, pos + 1 + n, _, by go_num, hle, by omega, HR3.out.1, HR3.out.2.1, HR3.out.2.2, HC2.out, HA2.out, by simp; omega, by omega⟩
      have hk5 : kk = 5 := by
        have := HKB.out
        unfold kd at this
        (repeat' split at this) <;> omega
      subst hk5
      have HC2 := Lib.hid (cut_line HC.out hlt hsk hkb)
      clear hkb HC HA
      go_wp2_with (first
        | (go_at_call 59; (with_reducible refine (kc _).mono ?_); rintro e w1 ⟨rfl, rfl⟩)
        | (at_builtin; (refine wpList_push rfl (.tmp 86) (.tmp 88) 67 rfl w.heap.size 106 _ 4 40 Tryd.underlying67 infoTok rfl (by decide) u5 _ _ rfl (((Bel.refl W).alloc _).own HOWN.out) _ _ _ rfl (by simp) rfl (by simp [Value.oneCell']) hmx hmb (Nat.le_trans (Below.size HBW.out) (Bel.size ((Bel.refl W).alloc _))) ?_); intro v3 w3 hown3 hg3 _))
      have HR3 := Lib.hid (push_rel (t := ⟨3, [], 0, pos⟩) ((Bel.refl W).alloc _) HOWN.out HIT.out HBW.out hown3 hg3 rfl)
      clear hown3 hg3
      go_roundg g'
      case measure => omega
      case rel => exact ⟨pos + 1, pos + 1, _, by go_num, by omega, by omega, HR3.out.1, HR3.out.2.1, HR3.out.2.2, HC2.out, asc_none _ (Nat.le_refl _), by simp; omega, by omega⟩
    · have hnx := fun ty => Lib.run_next_end_at (P := Tryd.prog) wr w.heap.size s pos ty hit hlt
      have HCE := Lib.hid (cut_end hC hlt)
      have HOWN := Lib.hid hown
      have HBW := Lib.hid hbw
      clear hown hbw hC hA hit
      go_wp2
      exact bodyPost_ret (v := .tuple #[_, .int .i64 0, .int .i64 0]) (by simp [results, Tryd.results38, go_sem]) rfl (cutPost_ok HCE.out rfl HOWN.out HBW.out)
end Go.Proofs.YtefajplbgmikdaaDoor
