/-
  The walk of path.find: the rule of a letter.
-/
import Derived.Test.YtefajplbgmikdaaDoorBase
import Derived.Test.YtefajplbgmikdaaDoorPathSpec
import Derived.Deep.MidRow
import Derived.Deep.LoopGhost
namespace Go.Proofs.YtefajplbgmikdaaDoor
open Go.RowKit

def rlC (r : Rl) : List Value := [.int .u8 r.name, .int .i64 r.count, .int .i64 r.kind]
def rlV (r : Rl) : Value := .agg #[.int .u8 r.name, .int .i64 r.count, .int .i64 r.kind]
def rulesC : List Value := rulesL.flatMap rlC
theorem rulesC_eq : rulesC = [.int .u8 77, .int .i64 2, .int .i64 1, .int .u8 76, .int .i64 2, .int .i64 2, .int .u8 72, .int .i64 1, .int .i64 2, .int .u8 86, .int .i64 1, .int .i64 2, .int .u8 81, .int .i64 4, .int .i64 3, .int .u8 67, .int .i64 6, .int .i64 4, .int .u8 83, .int .i64 4, .int .i64 4, .int .u8 84, .int .i64 2, .int .i64 3, .int .u8 75, .int .i64 5, .int .i64 5, .int .u8 90, .int .i64 0, .int .i64 6] := rfl
/-- The rules lie where path.find reads them. -/
def Rul (w : World) : Prop := w.rangeAt 2 0 rulesC
theorem Bel.rul {w0 w : World} (h : Bel w0 w) (hr : Rul w0) : Rul w := fun j v hj => h.cell (hr j v hj)
theorem infoRules : (Tryd.prog.info? 170).map (·.size) = some rulesC.length := by kernel_rfl
theorem rul_load {w : World} (h : Rul w) : (Instr.loadAt 170 (.pointer (some ⟨2, 0, none⟩))).run Tryd.prog w = .ok (.agg rulesC.toArray) w :=
  run_loadAt_mid (P := Tryd.prog) w _ 0 170 rulesC _ h Tryd.underlying170 rfl (by kernel_rfl)

def findS (c : Nat) : Rl × Bool × Bool := match ruleOf c with | some r => (r, smallC c, true) | none => (⟨0, 0, 0⟩, false, false)
def FindPost (c : Nat) (w : World) (e : Ending) (w' : World) : Prop := e = .returned (.tuple #[rlV (findS c).1, .bool (findS c).2.1, .bool (findS c).2.2]) ∧ Bel w w'
theorem find_some {c k : Nat} {r : Rl} (hk : rulesL[k]? = some r) (he : upC c = r.name) (hn : ∀ j r', j < k → rulesL[j]? = some r' → upC c ≠ r'.name) : ruleOf c = some r := by
  unfold ruleOf
  rw [List.find?_eq_some_iff_getElem]
  obtain ⟨hlt, hkk⟩ := List.getElem?_eq_some_iff.1 hk
  refine ⟨by simp [he], k, hlt, hkk, fun j hj => ?_⟩
  have := hn j (rulesL[j]'(by omega)) hj (List.getElem?_eq_getElem _)
  simp [Ne.symm this]
theorem find_none {c : Nat} (hn : ∀ j r', j < 10 → rulesL[j]? = some r' → upC c ≠ r'.name) : ruleOf c = none := by
  unfold ruleOf
  rw [List.find?_eq_none]
  intro x hx
  obtain ⟨j, hj, rfl⟩ := List.mem_iff_getElem.1 hx
  have := hn j _ hj (List.getElem?_eq_getElem hj)
  simp [Ne.symm this]
def NoneTo (u k : Nat) : Prop := ∀ j r', j < k → rulesL[j]? = some r' → u ≠ r'.name
theorem NoneTo.next {u k : Nat} {r : Rl} (h : NoneTo u k) (hk : rulesL[k]? = some r) (hne : u ≠ r.name) : NoneTo u (k + 1) := fun j r' hj hr => by
  rcases Nat.lt_succ_iff_lt_or_eq.1 hj with h1 | rfl
  · exact h j r' h1 hr
  · rw [hk] at hr
    obtain rfl := Option.some.inj hr
    exact hne

theorem rule_at {k : Nat} {r : Rl} (h : rulesL[k]? = some r) (w : World) : (Instr.index 170 (.agg rulesC.toArray) (.int .i64 k)).run Tryd.prog w = .ok (rlV r) w := by
  have hk : k < 10 := (List.getElem?_eq_some_iff.1 h).1
  rw [run_index_agg 170 121 10 _ _ 3 k Tryd.underlying170 Tryd.underlying121 rfl (by kernel_rfl) hk w]
  have hk' : k = 0 ∨ k = 1 ∨ k = 2 ∨ k = 3 ∨ k = 4 ∨ k = 5 ∨ k = 6 ∨ k = 7 ∨ k = 8 ∨ k = 9 := by omega
  rcases hk' with rfl | rfl | rfl | rfl | rfl | rfl | rfl | rfl | rfl | rfl <;> (obtain rfl := Option.some.inj h; rfl)

/-- A box of three cells of the call's own, in a world that kept it. -/
theorem box3 {w wr : World} {t : TypeId} {c0 c1 c2 : Value} (h : Bel (w.alloc (.cells #[c0, c1, c2] t)) wr) :
    (wr.cell? ⟨w.heap.size, 0, none⟩ = some c0 ∧ wr.cell? ⟨w.heap.size, 1, none⟩ = some c1 ∧ wr.cell? ⟨w.heap.size, 2, none⟩ = some c2) ∧ (∀ j, wr.frozen? ⟨w.heap.size, j, none⟩ = false) ∧
    ∀ a0 a1 a2, (((wr.setCell ⟨w.heap.size, 0, none⟩ a0).setCell ⟨w.heap.size, 1, none⟩ a1).setCell ⟨w.heap.size, 2, none⟩ a2).cell? ⟨w.heap.size, 0, none⟩ = some a0 ∧
      (((wr.setCell ⟨w.heap.size, 0, none⟩ a0).setCell ⟨w.heap.size, 1, none⟩ a1).setCell ⟨w.heap.size, 2, none⟩ a2).cell? ⟨w.heap.size, 1, none⟩ = some a1 ∧
      (((wr.setCell ⟨w.heap.size, 0, none⟩ a0).setCell ⟨w.heap.size, 1, none⟩ a1).setCell ⟨w.heap.size, 2, none⟩ a2).cell? ⟨w.heap.size, 2, none⟩ = some a2 := by
  have hz : (w.alloc (.cells #[c0, c1, c2] t)).heap[w.heap.size]? = some (.cells #[c0, c1, c2] t (0, 0)) := heap_alloc_new _ _
  have hlt : w.heap.size < (w.alloc (.cells #[c0, c1, c2] t)).heap.size := by simp
  have hb : wr.heap[w.heap.size]? = some (.cells #[c0, c1, c2] t (0, 0)) := (Below.block h _ hlt).trans hz
  refine ⟨⟨?_, ?_, ?_⟩, fun j => ?_, fun a0 a1 a2 => ?_⟩
  · simp [World.cell?, hb]
  · simp [World.cell?, hb]
  · simp [World.cell?, hb]
  · simp [World.frozen?, hb]
  · refine ⟨?_, ?_, ?_⟩ <;> simp [World.cell?, World.setCell, Array.getElem?_modify, hb]
theorem bel_set3 {w wr : World} {o : Obj} (h : Bel (w.alloc o) wr) (a0 a1 a2 : Value) : Bel w (((wr.setCell ⟨w.heap.size, 0, none⟩ a0).setCell ⟨w.heap.size, 1, none⟩ a1).setCell ⟨w.heap.size, 2, none⟩ a2) :=
  ((Bel.trans ((Bel.refl w).alloc o) h).set (p := ⟨w.heap.size, 0, none⟩) (Nat.le_refl _) a0).set (p := ⟨w.heap.size, 1, none⟩) (Nat.le_refl _) a1 |>.set (p := ⟨w.heap.size, 2, none⟩) (Nat.le_refl _) a2

set_option maxHeartbeats 1000000 in
set_option maxRecDepth 100000 in
theorem find_any (c : Nat) (w : World) (hc : c < 256) (hr : Rul w) : Calls Tryd.prog 103 #[.int .u8 c] w (FindPost c w) := by
  have HR := Lib.hid hr
  clear hr
  have hb0 : Hid (Bel w (w.alloc (.cells #[.int .u8 0, .int .i64 0, .int .i64 0] 121))) := (Bel.refl w).alloc _
  have HR0 := Lib.hid (hb0.out.rul HR.out)
  have hixa : ∀ (k : Nat) (r : Rl), rulesL[k]? = some r → ∀ w, (Instr.index 170 (.agg rulesC.toArray) (.int .i64 k)).run Tryd.prog w = .ok (rlV r) w := fun k r h w => rule_at h w
  obtain ⟨RA, hRA⟩ : ∃ RA, rulesC.toArray = RA := ⟨_, rfl⟩
  rw [hRA] at hixa
  have HIX := Lib.hid hixa
  clear hixa
  by_cases hs : 97 ≤ c ∧ c ≤ 122
  · have d1 : decide ((97 : Int) ≤ c) = true := decide_eq_true (by omega)
    have d2 : decide ((c : Int) ≤ 122) = true := decide_eq_true (by omega)
    obtain ⟨u, hu⟩ : ∃ u, c = u + 32 := ⟨c - 32, by omega⟩
    have hsub : (c : Int) - 32 = (u : Int) := by omega
    have HSM : Hid (smallC (u + 32) = true) := by unfold Hid smallC; simp; omega
    have HUP : Hid (upC (u + 32) = u) := by unfold Hid upC; rw [HSM.out]; simp
    go_enter Tryd.func103, Tryd.ntmps103
    go_wp2_with (first
      | (refine wpList_load_mid rfl 170 (.global 2) rfl 2 0 rfl rulesC _ HR0.out Tryd.underlying170 rfl infoRules ?_; rw [hRA]))
    go_loopw [3, 17] (fun s3 i w' => ∃ k : Nat, i = .int .i64 k ∧ s3 = .bool true ∧ k ≤ 10 ∧ NoneTo u k ∧ Bel (w.alloc (.cells #[.int .u8 0, .int .i64 0, .int .i64 0] 121)) w') (fun _ i _ => 10 - (intOf i).toNat)
    case atStart => exact ⟨0, rfl, rfl, by omega, fun j r' hj => by omega, Bel.refl _⟩
    case round =>
      obtain ⟨k, rfl, rfl, hk, hN, hB⟩ := hrel
      have HN := Lib.hid hN
      have HB := Lib.hid hB
      clear hN hB
      have hbx := box3 HB.out
      have hbo := fun o => box3 (Bel.alloc HB.out o)
      have HS1 := Lib.hid hbx.2.2
      have HS2 : Hid (∀ o, _) := fun o => (hbo o).2.2
      have hb1 := hbx.1
      have hb2 := hbx.2.1
      have hb3 := fun o => (hbo o).1
      have hb4 := fun o => (hbo o).2.1
      clear hbx hbo
      by_cases h10 : k < 10
      · obtain ⟨r, hr⟩ : ∃ r, rulesL[k]? = some r := ⟨_, List.getElem?_eq_getElem h10⟩
        have hix := HIX.out _ _ hr
        simp only [rlV] at hix
        obtain ⟨nm, ct, kn⟩ := r
        have HRK := Lib.hid hr
        clear hr
        by_cases he : nm = u
        · subst he
          go_wp2
          refine bodyPost_ret (v := .tuple #[rlV ⟨nm, ct, kn⟩, .bool true, .bool true]) (by have q := HS2.out; simp [results, Tryd.results103, go_sem, rlV, q]) rfl ?_
          have hf : findS (nm + 32) = (⟨nm, ct, kn⟩, true, true) := by
            unfold findS
            rw [find_some HRK.out HUP.out (by rw [HUP.out]; exact HN.out), HSM.out]
          refine ⟨by rw [hf], bel_set3 (Bel.alloc HB.out _) _ _ _⟩
        · have he' : ((nm : Int) == u) = false := by simp; omega
          go_wp2
          go_roundw
          case rel => exact ⟨k + 1, rfl, rfl, by omega, HN.out.next HRK.out (Ne.symm he), Bel.alloc HB.out _⟩
          case measure => simp [intOf]; omega
      · obtain rfl : k = 10 := by omega
        clear h10
        go_wp2
        refine bodyPost_ret (v := .tuple #[rlV ⟨0, 0, 0⟩, .bool false, .bool false]) (by have q := HS1.out; simp [results, Tryd.results103, go_sem, rlV, q]) rfl ?_
        have hf : findS c = (⟨0, 0, 0⟩, false, false) := by
          unfold findS
          rw [hu, find_none (by rw [HUP.out]; exact HN.out)]
        exact ⟨by rw [hf], bel_set3 HB.out _ _ _⟩
  by_cases h9 : 97 ≤ c
  · have d1 : decide ((97 : Int) ≤ c) = true := decide_eq_true (by omega)
    have d2 : decide ((c : Int) ≤ 122) = false := decide_eq_false (by omega)
    obtain ⟨u, hu⟩ : ∃ u, c = u := ⟨_, rfl⟩
    subst hu
    have HSM : Hid (smallC c = false) := by unfold Hid smallC; simp; omega
    have HUP : Hid (upC c = c) := by unfold Hid upC; rw [HSM.out]; simp
    obtain ⟨u, hu⟩ : ∃ u, c = u := ⟨_, rfl⟩
    subst hu
    go_enter Tryd.func103, Tryd.ntmps103
    go_wp2_with (first
      | (refine wpList_load_mid rfl 170 (.global 2) rfl 2 0 rfl rulesC _ HR0.out Tryd.underlying170 rfl infoRules ?_; rw [hRA]))
    go_loopw [3, 17] (fun s3 i w' => ∃ k : Nat, i = .int .i64 k ∧ s3 = .bool false ∧ k ≤ 10 ∧ NoneTo c k ∧ Bel (w.alloc (.cells #[.int .u8 0, .int .i64 0, .int .i64 0] 121)) w') (fun _ i _ => 10 - (intOf i).toNat)
    case atStart => exact ⟨0, rfl, rfl, by omega, fun j r' hj => by omega, Bel.refl _⟩
    case round =>
      obtain ⟨k, rfl, rfl, hk, hN, hB⟩ := hrel
      have HN := Lib.hid hN
      have HB := Lib.hid hB
      clear hN hB
      have hbx := box3 HB.out
      have hbo := fun o => box3 (Bel.alloc HB.out o)
      have HS1 := Lib.hid hbx.2.2
      have HS2 : Hid (∀ o, _) := fun o => (hbo o).2.2
      have hb1 := hbx.1
      have hb2 := hbx.2.1
      have hb3 := fun o => (hbo o).1
      have hb4 := fun o => (hbo o).2.1
      clear hbx hbo
      by_cases h10 : k < 10
      · obtain ⟨r, hr⟩ : ∃ r, rulesL[k]? = some r := ⟨_, List.getElem?_eq_getElem h10⟩
        have hix := HIX.out _ _ hr
        simp only [rlV] at hix
        obtain ⟨nm, ct, kn⟩ := r
        have HRK := Lib.hid hr
        clear hr
        by_cases he : nm = c
        · subst he
          go_wp2
          refine bodyPost_ret (v := .tuple #[rlV ⟨nm, ct, kn⟩, .bool false, .bool true]) (by have q := HS2.out; simp [results, Tryd.results103, go_sem, rlV, q]) rfl ?_
          have hf : findS nm = (⟨nm, ct, kn⟩, false, true) := by
            unfold findS
            rw [find_some HRK.out HUP.out (by rw [HUP.out]; exact HN.out), HSM.out]
          refine ⟨by rw [hf], bel_set3 (Bel.alloc HB.out _) _ _ _⟩
        · have he' : ((nm : Int) == c) = false := by simp; omega
          go_wp2
          go_roundw
          case rel => exact ⟨k + 1, rfl, rfl, by omega, HN.out.next HRK.out (Ne.symm he), Bel.alloc HB.out _⟩
          case measure => simp [intOf]; omega
      · obtain rfl : k = 10 := by omega
        clear h10
        go_wp2
        refine bodyPost_ret (v := .tuple #[rlV ⟨0, 0, 0⟩, .bool false, .bool false]) (by have q := HS1.out; simp [results, Tryd.results103, go_sem, rlV, q]) rfl ?_
        have hf : findS c = (⟨0, 0, 0⟩, false, false) := by
          unfold findS
          rw [find_none (by rw [HUP.out]; exact HN.out)]
        exact ⟨by rw [hf], bel_set3 HB.out _ _ _⟩
  · have d1 : decide ((97 : Int) ≤ c) = false := decide_eq_false (by omega)
    obtain ⟨u, hu⟩ : ∃ u, c = u := ⟨_, rfl⟩
    subst hu
    have HSM : Hid (smallC c = false) := by unfold Hid smallC; simp; omega
    have HUP : Hid (upC c = c) := by unfold Hid upC; rw [HSM.out]; simp
    obtain ⟨u, hu⟩ : ∃ u, c = u := ⟨_, rfl⟩
    subst hu
    go_enter Tryd.func103, Tryd.ntmps103
    go_wp2_with (first
      | (refine wpList_load_mid rfl 170 (.global 2) rfl 2 0 rfl rulesC _ HR0.out Tryd.underlying170 rfl infoRules ?_; rw [hRA]))
    go_loopw [3, 17] (fun s3 i w' => ∃ k : Nat, i = .int .i64 k ∧ s3 = .bool false ∧ k ≤ 10 ∧ NoneTo c k ∧ Bel (w.alloc (.cells #[.int .u8 0, .int .i64 0, .int .i64 0] 121)) w') (fun _ i _ => 10 - (intOf i).toNat)
    case atStart => exact ⟨0, rfl, rfl, by omega, fun j r' hj => by omega, Bel.refl _⟩
    case round =>
      obtain ⟨k, rfl, rfl, hk, hN, hB⟩ := hrel
      have HN := Lib.hid hN
      have HB := Lib.hid hB
      clear hN hB
      have hbx := box3 HB.out
      have hbo := fun o => box3 (Bel.alloc HB.out o)
      have HS1 := Lib.hid hbx.2.2
      have HS2 : Hid (∀ o, _) := fun o => (hbo o).2.2
      have hb1 := hbx.1
      have hb2 := hbx.2.1
      have hb3 := fun o => (hbo o).1
      have hb4 := fun o => (hbo o).2.1
      clear hbx hbo
      by_cases h10 : k < 10
      · obtain ⟨r, hr⟩ : ∃ r, rulesL[k]? = some r := ⟨_, List.getElem?_eq_getElem h10⟩
        have hix := HIX.out _ _ hr
        simp only [rlV] at hix
        obtain ⟨nm, ct, kn⟩ := r
        have HRK := Lib.hid hr
        clear hr
        by_cases he : nm = c
        · subst he
          go_wp2
          refine bodyPost_ret (v := .tuple #[rlV ⟨nm, ct, kn⟩, .bool false, .bool true]) (by have q := HS2.out; simp [results, Tryd.results103, go_sem, rlV, q]) rfl ?_
          have hf : findS nm = (⟨nm, ct, kn⟩, false, true) := by
            unfold findS
            rw [find_some HRK.out HUP.out (by rw [HUP.out]; exact HN.out), HSM.out]
          refine ⟨by rw [hf], bel_set3 (Bel.alloc HB.out _) _ _ _⟩
        · have he' : ((nm : Int) == c) = false := by simp; omega
          go_wp2
          go_roundw
          case rel => exact ⟨k + 1, rfl, rfl, by omega, HN.out.next HRK.out (Ne.symm he), Bel.alloc HB.out _⟩
          case measure => simp [intOf]; omega
      · obtain rfl : k = 10 := by omega
        clear h10
        go_wp2
        refine bodyPost_ret (v := .tuple #[rlV ⟨0, 0, 0⟩, .bool false, .bool false]) (by have q := HS1.out; simp [results, Tryd.results103, go_sem, rlV, q]) rfl ?_
        have hf : findS c = (⟨0, 0, 0⟩, false, false) := by
          unfold findS
          rw [find_none (by rw [HUP.out]; exact HN.out)]
        exact ⟨by rw [hf], bel_set3 HB.out _ _ _⟩
end Go.Proofs.YtefajplbgmikdaaDoor
