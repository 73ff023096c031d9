/-
  zed: Sign, Cmp, Of.
-/
import Derived.Test.YtafmfnpjhhaikaaGreatDoorZai
import Derived.MapKept
import Derived.IntWalk
import Derived.Tactics2
import Derived.Defers
import Derived.Laws.Pointers
import Derived.Laws.LoneSync
import Derived.RegionTactic
import Derived.RegionCalls
import Derived.ChangeAlike
namespace Go.Proofs.YtafmfnpjhhaikaaGreatDoor
open Go.RowKit Go.Shelf
theorem run_insert {P : Program} {w : World} {t kT eT : TypeId} {r : Nat} {es : Array MapEntry} {clock : Nat} {kk : Int} {u : Value} (hu : P.underlying t = some (.map kT eT)) (hk : P.underlying kT = some (.int .i64)) (hb : w.heap[r]? = some (.map es clock))
    (hn : Instr.findNow (.int .i64) (.int .i64 kk) es.toList 0 = some none) :
    (Instr.mapUpdate t (.map (some r)) (.int .i64 kk) u).run P w = .ok () { w with heap := w.heap.setIfInBounds r (.map (es.push { key := .int .i64 kk, val := u, born := clock }) (clock + 1)) } := by
  unfold Instr.mapUpdate
  simp only [Sem.run_bind, run_underlying hu, Result.andThen, MapKept.run_getObj_map hb, MapKept.run_checkKey hk (show MapKept.IsKey (.int .i64) (.int .i64 kk) by simp [MapKept.IsKey]) false 9999, MapKept.run_findKey hk hn]
  exact MapKept.run_setObj_map _ hb
theorem wpList_value {P : Program} {ops : Array Oper} {rest : List Oper} {o : Oper} {a : Act} {w : World} {Q : Exit → Act → World → Prop} (hg : o.guard = none) (v : Value) (w' : World) (hr : (execOp a.eval o).run P w = .ok (.value v) w')
    (h : wpList P ops Q rest (a.put o.dst v) w') : wpList P ops Q (o :: rest) a w := by
  refine wpList_plain hg fun K' hK' => ?_
  unfold Oper.wp
  rw [hr]
  exact hK' _ _ h
theorem wpList_unit {P : Program} {ops : Array Oper} {rest : List Oper} {o : Oper} {a : Act} {w : World} {Q : Exit → Act → World → Prop} (hg : o.guard = none) (w' : World) (hr : (execOp a.eval o).run P w = .ok .skip w')
    (h : wpList P ops Q rest (a.put o.dst undef) w') : wpList P ops Q (o :: rest) a w := by
  refine wpList_plain hg fun K' hK' => ?_
  unfold Oper.wp
  rw [hr]
  exact hK' _ _ h
theorem wpList_insert {P : Program} {ops : Array Oper} {rest : List Oper} {o : Oper} {a : Act} {w : World} {Q : Exit → Act → World → Prop} (hg : o.guard = none) (m x v : Operand) (t kT eT : TypeId) (ho : o.op = .insert t m x v)
    (hu : P.underlying t = some (.map kT eT)) (hk : P.underlying kT = some (.int .i64)) (r : Nat) (es : Array MapEntry) (clock : Nat) (hm : a.eval m = .map (some r)) (kk : Int) (hx : a.eval x = .int .i64 kk) (u : Value) (hv : a.eval v = u)
    (hb : w.heap[r]? = some (.map es clock)) (hn : Instr.findNow (.int .i64) (.int .i64 kk) es.toList 0 = some none)
    (h : ∀ w', w'.heap[r]? = some (.map (es.push { key := .int .i64 kk, val := u, born := clock }) (clock + 1)) → w.grownBy w' (some r) → wpList P ops Q rest (a.put o.dst undef) w') : wpList P ops Q (o :: rest) a w := by
  have hlt := heap_lt hb
  refine wpList_unit hg { w with heap := w.heap.setIfInBounds r (.map (es.push { key := .int .i64 kk, val := u, born := clock }) (clock + 1)) } ?_ (h _ ?_ ⟨rfl, rfl, rfl, by simp, fun k _ hne => ?_⟩)
  · unfold execOp
    simp only [ho, hm, hx, hv, Sem.run_bind, run_insert hu hk hb hn, Result.andThen]
    rfl
  · simp [hlt]
  · have : r ≠ k := fun e => hne (by rw [e])
    simp [this]
theorem run_look {P : Program} {w : World} {t kT eT : TypeId} {r : Nat} {es : Array MapEntry} {clock : Nat} {kk : Int} {i : Nat} {u : Value} (hu : P.underlying t = some (.map kT eT)) (hk : P.underlying kT = some (.int .i64)) (hb : w.heap[r]? = some (.map es clock))
    (hn : Instr.findNow (.int .i64) (.int .i64 kk) es.toList 0 = some (some (i, u))) : (Instr.lookup t (.map (some r)) (.int .i64 kk) false).run P w = .ok u w := by
  unfold Instr.lookup
  simp only [Sem.run_bind, run_underlying hu, Result.andThen, MapKept.run_getObj_map hb, Sem.run_pure, MapKept.run_checkKey hk (show MapKept.IsKey (.int .i64) (.int .i64 kk) by simp [MapKept.IsKey]) _ 9999, MapKept.run_findKey hk hn]
  rfl
theorem wpList_look {P : Program} {ops : Array Oper} {rest : List Oper} {o : Oper} {a : Act} {w : World} {Q : Exit → Act → World → Prop} (hg : o.guard = none) (m x : Operand) (t : TypeId) (ho : o.op = .lookup t m x false) (v mv xv : Value)
    (hm : a.eval m = mv) (hx : a.eval x = xv) (hr : (Instr.lookup t mv xv false).run P w = .ok v w) (h : wpList P ops Q rest (a.put o.dst v) w) : wpList P ops Q (o :: rest) a w := by
  refine wpList_value hg v w ?_ h
  unfold execOp
  simp only [ho, hm, hx, Sem.run_bind, hr, Result.andThen]
  rfl
theorem below_any (b : Bool) (p : Option Addr) (k c : Nat) (w : World) : Calls Tryz.prog 143 #[.agg #[.bool b, .slice p k c]] w fun e w' => e = .returned (.bool b) ∧ Bel w w' := by
  go_enter Tryz.func143, Tryz.ntmps143
  go_wp2
  go_ret
  exact ⟨rfl, (Bel.refl w).alloc _⟩
theorem nought_any (b : Bool) (p : Option Addr) (k c : Nat) (w : World) : Calls Tryz.prog 144 #[.agg #[.bool b, .slice p k c]] w fun e w' => e = .returned (.bool (decide (k = 0))) ∧ Bel w w' := by
  have hd : ((k : Int) == 0) = decide (k = 0) := by rw [Bool.eq_iff_iff]; simp
  go_enter Tryz.func144, Tryz.ntmps144
  go_wp2
  go_ret
  exact ⟨rfl, (Bel.refl w).alloc _⟩
def signsE (b : Bool) (p : Option Addr) (k c : Nat) : Array MapEntry := (((#[] : Array MapEntry).push ⟨.int .i64 (-1), .func (.func 143) #[.agg #[.bool b, .slice p k c]] #[], 0⟩).push ⟨.int .i64 0, .func (.func 144) #[.agg #[.bool b, .slice p k c]] #[], 1⟩).push ⟨.int .i64 1, .func (.func 145) #[.agg #[.bool b, .slice p k c]] #[], 2⟩
set_option maxHeartbeats 1000000 in
set_option maxRecDepth 100000 in
theorem mk_zsign {w : World} {a : Value} {x : Int} (ha : ZI w a x) : Calls Tryz.prog 97 #[a] w (Makes w fun v _ => v = .int .i64 (sgnN x)) := by
  obtain ⟨s, p, k, c, n, rfl, hn, hx⟩ := ha.slice
  have HG := Lib.hid (fun X (hX : Bel w X) => mk_zgood (ha.bel hX))
  obtain ⟨R, hR⟩ : ∃ R, sgnN x = R := ⟨_, rfl⟩
  have HR := Lib.hid hR
  rw [hR]
  clear hn ha hx hR
  have HB : Hid (∀ o, Bel w (w.alloc o)) := fun o => (Bel.refl w).alloc o
  go_enter Tryz.func97, Tryz.ntmps97
  go_upto_region 2 with (go_at_call 142; (with_reducible refine (HG.out _ (HB.out _)).mono ?_); rintro e w3 ⟨v3, rfl, hb3, hv3⟩; have HB3 := Lib.hid ((HB.out _).trans hb3); have HV3 := Lib.hid hv3; obtain ⟨q, kq, cq, rfl, hu⟩ := hv3.slice; clear hb3 hv3 hu)
  obtain ⟨b, hb⟩ : ∃ b, decide (x < 0) = b := ⟨_, rfl⟩
  have HBX := Lib.hid hb
  rw [hb] at HV3 ⊢
  clear hb
  obtain ⟨X3, hX3⟩ : ∃ X, w3.heap.size = X := ⟨_, rfl⟩
  rw [hX3]
  have hbx : (w3.alloc (.cells #[.bool b, .slice q kq cq] 175)).heap[X3]? = some (.cells #[.bool b, .slice q kq cq] 175 (0, 0)) := alloc_heap hX3
  have hbw : Bel w (w3.alloc (.cells #[.bool b, .slice q kq cq] 175)) := HB3.out.alloc _
  obtain ⟨W, hW⟩ : ∃ W, w3.alloc (.cells #[.bool b, .slice q kq cq] 175) = W := ⟨_, rfl⟩
  rw [hW] at hbx hbw ⊢
  have HBX3 := Lib.hid hbx
  have HBW := Lib.hid hbw
  clear hW hX3 hbx hbw
  go_cut [4] from 9 to 16 (fun s4 wx => ∃ M, s4 = .map (some M) ∧ wx.heap[M]? = some (.map (signsE b q kq cq) 3) ∧ Bel w wx)
  case first =>
    refine wp_region_lit ?_
    refine wpList_value rfl (.map (some W.heap.size)) (W.alloc (.map #[] 0)) (by kernel_rfl) ?_
    have hlt := heap_lt HBX3.out
    have hsz := HBW.out.size
    obtain ⟨M, hM⟩ : ∃ M, W.heap.size = M := ⟨_, rfl⟩
    have h0 : (W.alloc (.map #[] 0)).heap[M]? = some (.map #[] 0) := alloc_heap hM
    have hb0 : Bel w (W.alloc (.map #[] 0)) := HBW.out.alloc _
    have x0 := heap_push_of HBX3.out (.map #[] 0)
    rw [hM]
    generalize W.alloc (.map #[] 0) = W0 at h0 hb0 x0 ⊢
    refine wpList_value rfl (.agg #[.bool b, .slice q kq cq]) W0 (by have z0 := (heap_cell x0 0).trans (rfl : _ = some (Value.bool b)); have z1 := (heap_cell x0 1).trans (rfl : _ = some (Value.slice q kq cq)); go_simp) ?_
    refine wpList_value rfl (.func (.func 143) #[.agg #[.bool b, .slice q kq cq]] #[]) W0 (by kernel_rfl) ?_
    refine wpList_insert rfl (.tmp 9) (.const (.int .i64 (-1))) (.tmp 11) 176 3 31 rfl Tryz.underlying176 Tryz.underlying3 M _ _ (by kernel_rfl) (-1) (by kernel_rfl) (.func (.func 143) #[.agg #[.bool b, .slice q kq cq]] #[]) (by kernel_rfl) h0 (by rfl) ?_
    intro W1 h1 g1
    have x1 : W1.heap[X3]? = some (.cells #[.bool b, .slice q kq cq] 175 (0, 0)) := (g1.block _ (heap_lt x0) (fun e => by simp at e; omega)).trans x0
    refine wpList_value rfl (.agg #[.bool b, .slice q kq cq]) W1 (by have z0 := (heap_cell x1 0).trans (rfl : _ = some (Value.bool b)); have z1 := (heap_cell x1 1).trans (rfl : _ = some (Value.slice q kq cq)); go_simp) ?_
    refine wpList_value rfl (.func (.func 144) #[.agg #[.bool b, .slice q kq cq]] #[]) W1 (by kernel_rfl) ?_
    refine wpList_insert rfl (.tmp 9) (.const (.int .i64 (0))) (.tmp 13) 176 3 31 rfl Tryz.underlying176 Tryz.underlying3 M _ _ (by kernel_rfl) (0) (by kernel_rfl) (.func (.func 144) #[.agg #[.bool b, .slice q kq cq]] #[]) (by kernel_rfl) h1 (by rfl) ?_
    intro W2 h2 g2
    have x2 : W2.heap[X3]? = some (.cells #[.bool b, .slice q kq cq] 175 (0, 0)) := (g2.block _ (heap_lt x1) (fun e => by simp at e; omega)).trans x1
    refine wpList_value rfl (.agg #[.bool b, .slice q kq cq]) W2 (by have z0 := (heap_cell x2 0).trans (rfl : _ = some (Value.bool b)); have z1 := (heap_cell x2 1).trans (rfl : _ = some (Value.slice q kq cq)); go_simp) ?_
    refine wpList_value rfl (.func (.func 145) #[.agg #[.bool b, .slice q kq cq]] #[]) W2 (by kernel_rfl) ?_
    refine wpList_insert rfl (.tmp 9) (.const (.int .i64 (1))) (.tmp 15) 176 3 31 rfl Tryz.underlying176 Tryz.underlying3 M _ _ (by kernel_rfl) (1) (by kernel_rfl) (.func (.func 145) #[.agg #[.bool b, .slice q kq cq]] #[]) (by kernel_rfl) h2 (by rfl) ?_
    intro W3 h3 g3
    have x3 : W3.heap[X3]? = some (.cells #[.bool b, .slice q kq cq] 175 (0, 0)) := (g3.block _ (heap_lt x2) (fun e => by simp at e; omega)).trans x2
    have hg := grown_trans g1 (grown_trans g2 g3)
    refine wpList_value rfl (.map (some M)) W3 (by kernel_rfl) ?_
    refine wpList_value rfl (.map (some M)) W3 (by kernel_rfl) ?_
    rw [wpList]
    simp only [Act.put, List.setIfInBounds_toArray, List.set_cons_succ, List.set_cons_zero]
    go_wp2
    go_meet
    exact ⟨M, rfl, h3, But.bel hb0 hg (fun k hk => by cases hk; omega)⟩
  case rest =>
  obtain ⟨M, rfl, hm, hbl⟩ := hcut
  have HBL := Lib.hid hbl
  have HM := Lib.hid hm
  clear hm hbl
  have hkq : kq = 0 ↔ x = 0 := by
    obtain ⟨u, he, hu⟩ := HV3.out
    simp only [Value.agg.injEq, Array.mk.injEq, List.cons.injEq, and_true] at he
    obtain ⟨-, rfl⟩ := he
    obtain ⟨p', c', h1, _⟩ := hu
    simp only [Value.slice.injEq] at h1
    rw [h1.2.1, List.length_eq_zero_iff, lim_nil b64_two, Int.natAbs_eq_zero]
  have HKQ := Lib.hid hkq
  clear hkq HV3 HB3
  go_wp2
  go_loopg [5] 2 (fun gf s5 wx => ∃ k : Int, s5 = .int .i64 k ∧ (k = -1 ∨ (k = 0 ∧ b = false) ∨ (k = 1 ∧ b = false ∧ kq ≠ 0)) ∧ k + gf = 1 ∧ wx.heap[M]? = some (.map (signsE b q kq cq) 3) ∧ Bel w wx)
  case atStart => exact ⟨-1, rfl, .inl rfl, by omega, HM.out, HBL.out⟩
  case round =>
    obtain ⟨k, rfl, hk, hkg, hm, hbl⟩ := hrel
    have HMr := Lib.hid hm
    have HBr := Lib.hid hbl
    clear hm hbl
    rcases hk with rfl | ⟨rfl, rfl⟩ | ⟨rfl, rfl, hk0⟩
    · obtain ⟨gk', rfl⟩ : ∃ g, gk = g + 1 := ⟨gk - 1, by omega⟩
      have HL : Hid ((Instr.lookup 176 (.map (some M)) (.int .i64 (-1)) false).run Tryz.prog wr = .ok (.func (.func 143) #[.agg #[.bool b, .slice q kq cq]] #[]) wr) := run_look (i := 0) Tryz.underlying176 Tryz.underlying3 HMr.out (by rfl)
      cases b with
      | true =>
        obtain rfl : -1 = R := by have h := HBX.out; rw [decide_eq_true_eq] at h; rw [← HR.out, sgnN, if_pos h]
        go_wp2_with (first
          | (refine wpList_look (by rfl) (.tmp 21) (.tmp 22) 176 (by rfl) _ _ _ (by rfl) (by rfl) HL.out ?_)
          | (go_at_call 143; (with_reducible refine (below_any _ _ _ _ _).mono ?_); rintro e w5 ⟨rfl, hb5⟩; have HB5 := Lib.hid hb5; clear hb5))
        go_ret
        exact ⟨_, rfl, HBr.out.trans HB5.out, rfl⟩
      | false =>
        go_wp2_with (first
          | (refine wpList_look (by rfl) (.tmp 21) (.tmp 22) 176 (by rfl) _ _ _ (by rfl) (by rfl) HL.out ?_)
          | (go_at_call 143; (with_reducible refine (below_any _ _ _ _ _).mono ?_); rintro e w5 ⟨rfl, hb5⟩; have HB5 := Lib.hid hb5; clear hb5))
        go_roundg gk'
        case measure => omega
        case rel => exact ⟨0, rfl, .inr (.inl (by simp)), by omega, HB5.out.heap HMr.out, HBr.out.trans HB5.out⟩
    · obtain ⟨gk', rfl⟩ : ∃ g, gk = g + 1 := ⟨gk - 1, by omega⟩
      have HL : Hid ((Instr.lookup 176 (.map (some M)) (.int .i64 (0)) false).run Tryz.prog wr = .ok (.func (.func 144) #[.agg #[.bool false, .slice q kq cq]] #[]) wr) := run_look (i := 1) Tryz.underlying176 Tryz.underlying3 HMr.out (by rfl)
      by_cases hq0 : kq = 0
      · have hd : decide (kq = 0) = true := decide_eq_true hq0
        obtain rfl : 0 = R := by rw [← HR.out, HKQ.out.1 hq0]; rfl
        clear hq0
        go_wp2_with (first
          | (refine wpList_look (by rfl) (.tmp 21) (.tmp 22) 176 (by rfl) _ _ _ (by rfl) (by rfl) HL.out ?_)
          | (go_at_call 144; (with_reducible refine (nought_any _ _ _ _ _).mono ?_); rintro e w5 ⟨rfl, hb5⟩; have HB5 := Lib.hid hb5; clear hb5))
        go_ret
        exact ⟨_, rfl, HBr.out.trans HB5.out, rfl⟩
      · have hd : decide (kq = 0) = false := decide_eq_false hq0
        have HQ0 := Lib.hid hq0
        clear hq0
        go_wp2_with (first
          | (refine wpList_look (by rfl) (.tmp 21) (.tmp 22) 176 (by rfl) _ _ _ (by rfl) (by rfl) HL.out ?_)
          | (go_at_call 144; (with_reducible refine (nought_any _ _ _ _ _).mono ?_); rintro e w5 ⟨rfl, hb5⟩; have HB5 := Lib.hid hb5; clear hb5))
        go_roundg gk'
        case measure => omega
        case rel => exact ⟨1, rfl, .inr (.inr (by simpa using HQ0.out)), by omega, HB5.out.heap HMr.out, HBr.out.trans HB5.out⟩
    · obtain rfl : 1 = R := by
        have h := HBX.out
        have h2 : x ≠ 0 := fun e => hk0 (HKQ.out.2 e)
        rw [decide_eq_false_iff_not] at h
        rw [← HR.out, sgnN, if_neg h, if_neg h2]
      clear hk0
      go_wp2
      go_ret
      exact ⟨_, rfl, HBr.out, rfl⟩
set_option maxHeartbeats 1000000 in
set_option maxRecDepth 100000 in
theorem mk_zcmp {w : World} {a b : Value} {x y : Int} (ha : ZI w a x) (hb : ZI w b y) (hf : Fit (x - y).natAbs) : Calls Tryz.prog 91 #[a, b] w (Makes w fun v _ => v = .int .i64 (sgnN (x - y))) := by
  obtain ⟨s1, p1, k1, c1, m, rfl, hm, hx⟩ := ha.slice
  obtain ⟨s2, p2, k2, c2, n, rfl, hn, hy⟩ := hb.slice
  have HS := Lib.hid (fun X (hX : Bel w X) => mk_zsub (ha.bel hX) (hb.bel hX) hf)
  have HG : Hid (∀ X v, ZC X v (x - y) → _) := fun X v hv => mk_zsign (w := X) (hv.zi hf)
  obtain ⟨z, hz⟩ : ∃ y', x - y = y' := ⟨_, rfl⟩
  rw [hz] at HS HG ⊢
  clear hm hn ha hb hx hy hz hf
  have HB : Hid (∀ o o', Bel w ((w.alloc o).alloc o')) := fun o o' => ((Bel.refl w).alloc o).alloc o'
  go_enter Tryz.func91, Tryz.ntmps91
  go_wp2_with (first
    | (go_at_call 139; (with_reducible refine (HS.out _ (HB.out _ _)).mono ?_); rintro e w3 ⟨v3, rfl, hb3, hv3⟩; have HB3 := Lib.hid ((HB.out _ _).trans hb3); have HV3 := Lib.hid hv3; clear hb3 hv3)
    | (go_at_call 97; (with_reducible refine (HG.out _ _ HV3.out).mono ?_); rintro e w4 ⟨v4, rfl, hb4, rfl⟩; have HB4 := Lib.hid (HB3.out.trans hb4); clear hb4))
  go_ret
  exact ⟨_, rfl, HB4.out, rfl⟩
set_option maxHeartbeats 1000000 in
set_option maxRecDepth 100000 in
theorem mk_zof (v : Int) (h1 : -9223372036854775808 ≤ v) (h2 : v < 9223372036854775808) (w : World) : Calls Tryz.prog 95 #[.int .i64 v] w (Makes w fun u w' => ZC w' u v) := by
  by_cases hv : v < 0
  · obtain ⟨m, hm⟩ : ∃ m : Nat, v = -((m : Int) + 1) := ⟨(-v - 1).toNat, by omega⟩
    have hm3 : m < 9223372036854775808 := by omega
    have HO := Lib.hid (fun X => mk_of (m + 1) (by unfold B64; omega) X)
    have HM : Hid (∀ X u, NC X u (m + 1) → _) := fun X u hu => mk_made (w := X) true (hu.ni (k := 1) (by unfold B64; omega) (by omega))
    rw [show sgnI true (m + 1) = v by rw [hm]; simp [sgnI]] at HM
    have e1 : ((m + 1 : Nat) : Int) = (m : Int) + 1 := by omega
    rw [e1] at HO
    have e2 : IntKind.i64.wrap (v + 1) = -(m : Int) := by rw [hm]; rw [IntWalk.i64_in _ (by omega)]; omega
    have HV := Lib.hid hm
    clear hm e1
    go_enter Tryz.func95, Tryz.ntmps95
    go_upto_region 1 with fail
    obtain ⟨hX2, hbw⟩ := boxes1 w (.cells #[.bool false, .slice none 0 0] 24)
    obtain ⟨W, hW⟩ : ∃ W, w.alloc (.cells #[.bool false, .slice none 0 0] 24) = W := ⟨_, rfl⟩
    rw [hW] at hX2 hbw ⊢
    obtain ⟨X2, eX2⟩ : ∃ X, w.heap.size = X := ⟨_, rfl⟩
    rw [eX2]
    rw [eX2] at hX2
    have HX2 := Lib.hid hX2
    have HBW := Lib.hid hbw
    have HGEX2 : Hid (w.heap.size ≤ X2) := by unfold Hid; omega
    clear hW hbw hX2 eX2
    go_wp2_with (first
      | (go_at_call 116; (with_reducible refine (HO.out _).mono ?_); rintro e w3 ⟨u3, rfl, hb3, hu3⟩; have HB3 := Lib.hid hb3; have HU3 := Lib.hid hu3; clear hb3 hu3)
      | (go_at_call 140; (with_reducible refine (HM.out _ _ HU3.out).mono ?_); rintro e w4 ⟨u4, rfl, hb4, hu4⟩; obtain ⟨q, kq, cq, rfl, -⟩ := hu4.slice; have HB4 := Lib.hid (HB3.out.trans hb4); rw [decide_eq_true hv] at hu4; have HU4 := Lib.hid hu4; clear hb4 hu4; have hhX2 := (HB4.out).heap HX2.out; have HHX2 := Lib.hid hhX2; have dX20 : w4.cell? ⟨X2, 0, none⟩ = some (.bool false) := (heap_cell hhX2 0).trans rfl; have fX20 : w4.frozen? ⟨X2, 0, none⟩ = false := heap_frozen hhX2 0; have dX21 : w4.cell? ⟨X2, 1, none⟩ = some (.slice none 0 0) := (heap_cell hhX2 1).trans rfl; have fX21 : w4.frozen? ⟨X2, 1, none⟩ = false := heap_frozen hhX2 1; clear hhX2))
    obtain ⟨kb, kp, kh⟩ := finAll (vs := [.bool true, .slice q kq cq]) (HBW.out.trans HB4.out) HHX2.out rfl HGEX2.out (Φ := fun W2 => ZC W2 (.agg #[.bool true, .slice q kq cq]) v) (fun W2 ho => HU4.out.only ho HHX2.out (noInt_int _ _ _ _))
    have kk0 : (setAll w4 X2 0 [.bool true, .slice q kq cq]).cell? ⟨X2, 0, none⟩ = some (.bool true) := (heap_cell kh 0).trans rfl
    have kk1 : (setAll w4 X2 0 [.bool true, .slice q kq cq]).cell? ⟨X2, 1, none⟩ = some (.slice q kq cq) := (heap_cell kh 1).trans rfl
    simp only [setAll] at kb kp kk0 kk1
    exact bodyPost_ret (v := .agg #[.bool true, .slice q kq cq]) (by simp [results, Tryz.results95, go_sem, kk0, kk1]) rfl ⟨_, rfl, kb, kp⟩
  · obtain ⟨m, rfl⟩ : ∃ m : Nat, v = (m : Int) := ⟨v.toNat, by omega⟩
    have hm3 : m < 9223372036854775808 := by omega
    have HO := Lib.hid (fun X => mk_of m (by unfold B64; omega) X)
    have HM : Hid (∀ X u, NC X u m → _) := fun X u hu => mk_made (w := X) false (hu.ni (k := 1) (by unfold B64; omega) (by omega))
    rw [show sgnI false m = (m : Int) from rfl] at HM
    go_enter Tryz.func95, Tryz.ntmps95
    go_upto_region 1 with fail
    obtain ⟨hX2, hbw⟩ := boxes1 w (.cells #[.bool false, .slice none 0 0] 24)
    obtain ⟨W, hW⟩ : ∃ W, w.alloc (.cells #[.bool false, .slice none 0 0] 24) = W := ⟨_, rfl⟩
    rw [hW] at hX2 hbw ⊢
    obtain ⟨X2, eX2⟩ : ∃ X, w.heap.size = X := ⟨_, rfl⟩
    rw [eX2]
    rw [eX2] at hX2
    have HX2 := Lib.hid hX2
    have HBW := Lib.hid hbw
    have HGEX2 : Hid (w.heap.size ≤ X2) := by unfold Hid; omega
    clear hW hbw hX2 eX2
    go_wp2_with (first
      | (go_at_call 116; (with_reducible refine (HO.out _).mono ?_); rintro e w3 ⟨u3, rfl, hb3, hu3⟩; have HB3 := Lib.hid hb3; have HU3 := Lib.hid hu3; clear hb3 hu3)
      | (go_at_call 140; (with_reducible refine (HM.out _ _ HU3.out).mono ?_); rintro e w4 ⟨u4, rfl, hb4, hu4⟩; obtain ⟨q, kq, cq, rfl, -⟩ := hu4.slice; have HB4 := Lib.hid (HB3.out.trans hb4); have HU4 := Lib.hid hu4; clear hb4 hu4; have hhX2 := (HB4.out).heap HX2.out; have HHX2 := Lib.hid hhX2; have dX20 : w4.cell? ⟨X2, 0, none⟩ = some (.bool false) := (heap_cell hhX2 0).trans rfl; have fX20 : w4.frozen? ⟨X2, 0, none⟩ = false := heap_frozen hhX2 0; have dX21 : w4.cell? ⟨X2, 1, none⟩ = some (.slice none 0 0) := (heap_cell hhX2 1).trans rfl; have fX21 : w4.frozen? ⟨X2, 1, none⟩ = false := heap_frozen hhX2 1; clear hhX2))
    obtain ⟨kb, kp, kh⟩ := finAll (vs := [.bool (decide ((m : Int) < 0)), .slice q kq cq]) (HBW.out.trans HB4.out) HHX2.out rfl HGEX2.out (Φ := fun W2 => ZC W2 (.agg #[.bool (decide ((m : Int) < 0)), .slice q kq cq]) (m : Int)) (fun W2 ho => HU4.out.only ho HHX2.out (noInt_int _ _ _ _))
    have kk0 : (setAll w4 X2 0 [.bool (decide ((m : Int) < 0)), .slice q kq cq]).cell? ⟨X2, 0, none⟩ = some (.bool (decide ((m : Int) < 0))) := (heap_cell kh 0).trans rfl
    have kk1 : (setAll w4 X2 0 [.bool (decide ((m : Int) < 0)), .slice q kq cq]).cell? ⟨X2, 1, none⟩ = some (.slice q kq cq) := (heap_cell kh 1).trans rfl
    simp only [setAll] at kb kp kk0 kk1
    exact bodyPost_ret (v := .agg #[.bool (decide ((m : Int) < 0)), .slice q kq cq]) (by simp [results, Tryz.results95, go_sem, kk0, kk1]) rfl ⟨_, rfl, kb, kp⟩
/-- A fraction that can be read; the fraction's own limbs. -/
def RI (w : World) (v : Value) (q : Rat) : Prop := ∃ s u d m n, v = .agg #[.bool s, u, d] ∧ NI w u m ∧ NI w d n ∧ ratOf s m n = q
def RC (w : World) (v : Value) (q : Rat) : Prop := ∃ u d, v = .agg #[.bool (decide (q.num < 0)), u, d] ∧ NC w u q.num.natAbs ∧ NC w d q.den
theorem RI.bel {w w' : World} {v : Value} {q : Rat} (h : RI w v q) (hb : Bel w w') : RI w' v q := by
  obtain ⟨s, u, d, m, n, h1, h2, h3, h4⟩ := h
  exact ⟨s, u, d, m, n, h1, h2.bel hb, h3.bel hb, h4⟩
theorem RC.bel {w w' : World} {v : Value} {q : Rat} (h : RC w v q) (hb : Bel w w') : RC w' v q := by
  obtain ⟨u, d, h1, h2, h3⟩ := h
  exact ⟨u, d, h1, h2.bel hb, h3.bel hb⟩
section
variable {b t : Nat} {w w' : World} {v : Value} {cs : Array Value} {fr : Nat × Nat}
theorem RI.only {q : Rat} (h : RI w v q) (ho : OnlyG b w w') (hb : w.heap[b]? = some (.cells cs t fr)) (hn : NoInt .u64 cs) : RI w' v q := by
  obtain ⟨s, u, d, m, n, h1, h2, h3, h4⟩ := h
  exact ⟨s, u, d, m, n, h1, h2.only ho hb hn, h3.only ho hb hn, h4⟩
theorem RC.only {q : Rat} (h : RC w v q) (ho : OnlyG b w w') (hb : w.heap[b]? = some (.cells cs t fr)) (hn : NoInt .u64 cs) : RC w' v q := by
  obtain ⟨u, d, h1, h2, h3⟩ := h
  exact ⟨u, d, h1, h2.only ho hb hn, h3.only ho hb hn⟩
end
theorem noInt_rat (s : Bool) (p p' : Option Addr) (n c n' c' : Nat) : NoInt .u64 #[.bool s, .slice p n c, .slice p' n' c'] := by
  intro v hv x
  simp at hv
  rcases hv with rfl | rfl | rfl <;> simp
theorem RC.slice {w : World} {v : Value} {q : Rat} (h : RC w v q) : ∃ p k c p' k' c', v = .agg #[.bool (decide (q.num < 0)), .slice p k c, .slice p' k' c'] ∧ NC w (.slice p k c) q.num.natAbs ∧ NC w (.slice p' k' c') q.den := by
  obtain ⟨u, d, rfl, hu, hd⟩ := h
  obtain ⟨p, c, k, rfl, _⟩ := hu.slice
  obtain ⟨p', c', k', rfl, _⟩ := hd.slice
  exact ⟨p, k, c, p', k', c', rfl, hu, hd⟩
theorem RI.slice {w : World} {v : Value} {q : Rat} (h : RI w v q) : ∃ s p k c p' k' c' m n, v = .agg #[.bool s, .slice p k c, .slice p' k' c'] ∧ NI w (.slice p k c) m ∧ NI w (.slice p' k' c') n ∧ ratOf s m n = q := by
  obtain ⟨s, u, d, m, n, rfl, hu, hd, hq⟩ := h
  obtain ⟨p, c, k, rfl⟩ := hu.slice
  obtain ⟨p', c', k', rfl⟩ := hd.slice
  exact ⟨s, p, k, c, p', k', c', m, n, rfl, hu, hd, hq⟩
/-- How much room a fraction takes, and that it is not too much. -/
abbrev LimK : Nat := 100000000
theorem Sz.fit {k : Nat} {x : Rat} (h : Sz k x) (hk : k ≤ LimK) : Fit x.num.natAbs ∧ Fit x.den := ⟨fit_of h.1 (by unfold LimK at hk; omega), fit_of h.2 (by unfold LimK at hk; omega)⟩
theorem RC.ri {w : World} {v : Value} {q : Rat} {k : Nat} (h : RC w v q) (hs : Sz k q) (hk : k ≤ LimK) : RI w v q := by
  obtain ⟨u, d, h1, h2, h3⟩ := h
  obtain ⟨f1, f2⟩ := hs.fit hk
  exact ⟨_, u, d, _, _, h1, h2.ni' f1, h3.ni' f2, of_self q⟩
/-- A fraction that can be read, and is not too large. -/
def RS (k : Nat) (w : World) (v : Value) (q : Rat) : Prop := RI w v q ∧ Sz k q
theorem RS.bel {k : Nat} {w w' : World} {v : Value} {q : Rat} (h : RS k w v q) (hb : Bel w w') : RS k w' v q := ⟨h.1.bel hb, h.2⟩
theorem RC.rs {w : World} {v : Value} {q : Rat} {k : Nat} (h : RC w v q) (hs : Sz k q) (hk : k ≤ LimK) : RS k w v q := ⟨h.ri hs hk, hs⟩
theorem num_made {s : Bool} {x : Int} {n : Nat} (hs : sgnI s x.natAbs = x) (hn : n ≠ 0) : sgnI s (x.natAbs / Nat.gcd x.natAbs n) = (mkRat x n).num := by
  obtain ⟨h1, h2, h3⟩ := mk_parts x hn
  have h4 := sgn_of (mkRat x n).num
  rw [← h4, h1]
  by_cases h0 : x.natAbs / Nat.gcd x.natAbs n = 0
  · rw [h0]; unfold sgnI; cases s <;> simp
  · have hd : decide ((mkRat x n).num < 0) = s := by
      have hx : decide ((mkRat x n).num < 0) = decide (x < 0) := by rw [Bool.eq_iff_iff]; simp [h3]
      rw [hx]
      have hp : x.natAbs ≠ 0 := fun e => h0 (by rw [e]; exact Nat.zero_div _)
      cases s with
      | true => unfold sgnI at hs; simp at hs; exact decide_eq_true (by omega)
      | false => unfold sgnI at hs; simp at hs; exact decide_eq_false (by omega)
    rw [hd]
theorem ni_zero_int (w : World) : ZI w (.agg #[.bool false, .slice none 0 0]) 0 := ⟨false, _, 0, rfl, ni_nil w, rfl⟩
theorem ZI.mk {w : World} {s : Bool} {u : Value} {n : Nat} (h : NI w u n) : ZI w (.agg #[.bool s, u]) (sgnI s n) := ⟨s, u, n, rfl, h, rfl⟩
set_option maxHeartbeats 2000000 in
set_option maxRecDepth 100000 in
theorem mk_rmade {w : World} {a b : Value} {x : Int} {n : Nat} (ha : ZI w a x) (hb : NI w b n) (hn0 : n ≠ 0) : Calls Tryz.prog 138 #[a, b] w (Makes w fun v w' => RC w' v (mkRat x n)) := by
  obtain ⟨s, p1, c1, l1, rfl, hm, hs⟩ := ha.parts
  obtain ⟨k1, hk1⟩ : ∃ k, l1.length = k := ⟨_, rfl⟩
  rw [hk1] at hm ⊢
  have hfx := ha.fit
  have hfn := hb.fit
  have HGC := Lib.hid (fun X (hX : Bel w X) => mk_gcd (hm.bel hX) (hb.bel hX))
  obtain ⟨h1, h2, h3⟩ := mk_parts x hn0
  have hnum := num_made hs hn0
  have hg0 : Nat.gcd x.natAbs n ≠ 0 := fun h => hn0 (Nat.gcd_eq_zero_iff.1 h).2
  obtain ⟨R, hR⟩ : ∃ R, mkRat x n = R := ⟨_, rfl⟩
  rw [hR] at h1 h2 hnum ⊢
  obtain ⟨G, hG⟩ : ∃ G, Nat.gcd x.natAbs n = G := ⟨_, rfl⟩
  rw [hG] at h1 h2 hnum HGC hg0
  have hGf : Fit G := hfn.mono (by rw [← hG]; exact Nat.le_of_dvd (by omega) (Nat.gcd_dvd_right _ _))
  have HD1 : Hid (∀ X (_ : Bel w X) g, NC X g G → _) := fun X hX g hg => mk_divMod (hm.bel hX) (hg.ni' hGf) hg0
  have HD2 : Hid (∀ X (_ : Bel w X) g, NC X g G → _) := fun X hX g hg => mk_divMod (hb.bel hX) (hg.ni' hGf) hg0
  have hf1 : Fit (x.natAbs / G) := hfx.mono (Nat.div_le_self _ _)
  have hf2 : Fit R.num.natAbs := by rw [h1]; exact hf1
  have HZ : Hid (∀ X u, NC X u (x.natAbs / G) → _) := fun X u hu => mk_zadd (w := X) (ZI.mk (s := s) (hu.ni' hf1)) (ni_zero_int X) (by rw [hnum, Int.add_zero]; exact hf2)
  rw [hnum, Int.add_zero] at HZ
  rw [← h2] at HD2
  obtain ⟨q2, c2, k2, rfl⟩ := hb.slice
  obtain ⟨M, hM⟩ : ∃ M, x.natAbs / G = M := ⟨_, rfl⟩
  rw [hM] at HD1 HZ
  clear hm hb ha hs hfx hfn h1 h2 h3 hnum hg0 hGf hf1 hf2 hM hG hR hk1 hn0
  go_enter Tryz.func138, Tryz.ntmps138
  go_upto_region 1 with fail
  obtain ⟨hX2, hX4, hbw⟩ := boxes2 w (.cells #[.bool s, .slice p1 k1 c1] 24) (.cells #[.bool false, .slice none 0 0, .slice none 0 0] 26)
  obtain ⟨W, hW⟩ : ∃ W, (w.alloc (.cells #[.bool s, .slice p1 k1 c1] 24)).alloc (.cells #[.bool false, .slice none 0 0, .slice none 0 0] 26) = W := ⟨_, rfl⟩
  rw [hW] at hX2 hX4 hbw ⊢
  obtain ⟨X2, eX2⟩ : ∃ X, w.heap.size = X := ⟨_, rfl⟩
  obtain ⟨X4, eX4⟩ : ∃ X, X2 + 1 = X := ⟨_, rfl⟩
  rw [eX2, eX4]
  rw [eX2] at hX2 hX4
  rw [eX4] at hX4
  have HX2 := Lib.hid hX2
  have HX4 := Lib.hid hX4
  have HBW := Lib.hid hbw
  have HGEX2 : Hid (w.heap.size ≤ X2) := by unfold Hid; omega
  have HGEX4 : Hid (w.heap.size ≤ X4) := by unfold Hid; omega
  have HLT : Hid (X2 < X4) := by unfold Hid; omega
  clear hW hbw hX2 hX4 eX2 eX4
  have c0 : W.cell? ⟨X2, 0, none⟩ = some (.bool s) := (heap_cell HX2.out 0).trans rfl
  have c1' : W.cell? ⟨X2, 1, none⟩ = some (.slice p1 k1 c1) := (heap_cell HX2.out 1).trans rfl
  go_upto_region 2 with (go_at_call 135; (with_reducible refine (HGC.out _ HBW.out).mono ?_); rintro e w3 ⟨g, rfl, hb3, hg⟩; obtain ⟨pg, cg, kg, rfl, -⟩ := hg.slice; have HB3 := Lib.hid hb3; have HG3 := Lib.hid hg; have d0 := hb3.cell c0; have d1 := hb3.cell c1'; clear hb3 hg)
  go_upto_region 3 with (go_at_call 174; (with_reducible refine (HD1.out _ (HBW.out.trans HB3.out) _ HG3.out).mono ?_); rintro e w4 ⟨v4, rfl, hb4, u4, r4, rfl, hu4, hr4⟩; obtain ⟨p4, c4, k4, rfl, -⟩ := hu4.slice; have HB4 := Lib.hid hb4; have HU4 := Lib.hid hu4; have e0 := hb4.cell d0; clear hb4 hr4 hu4)
  go_upto_region 4 with (go_at_call 174; (with_reducible refine (HD2.out _ (HBW.out.trans (HB3.out.trans HB4.out)) _ (HG3.out.bel HB4.out)).mono ?_); rintro e w5 ⟨v5, rfl, hb5, u5, r5, rfl, hu5, hr5⟩; obtain ⟨p5, c5, k5, rfl, -⟩ := hu5.slice; have HB5 := Lib.hid hb5; have HU5 := Lib.hid hu5; have f0 := hb5.cell e0; clear hb5 hr5 hu5)
  go_wp2_with (go_at_call 136; (with_reducible refine (HZ.out _ _ (HU4.out.bel HB5.out)).mono ?_); rintro e w6 ⟨v6, rfl, hb6, hv6⟩; obtain ⟨p6, k6, c6, rfl, hu6⟩ := hv6.slice; have HB6 := Lib.hid (HB3.out.trans (HB4.out.trans (HB5.out.trans hb6))); have HV6 := Lib.hid hu6; have HU6 := Lib.hid (HU5.out.bel hb6); clear hb6 hv6 hu6; have hhX4 := (HB6.out).heap HX4.out; have HHX4 := Lib.hid hhX4; have dX40 : w6.cell? ⟨X4, 0, none⟩ = some (.bool false) := (heap_cell hhX4 0).trans rfl; have fX40 : w6.frozen? ⟨X4, 0, none⟩ = false := heap_frozen hhX4 0; have dX41 : w6.cell? ⟨X4, 1, none⟩ = some (.slice none 0 0) := (heap_cell hhX4 1).trans rfl; have fX41 : w6.frozen? ⟨X4, 1, none⟩ = false := heap_frozen hhX4 1; have dX42 : w6.cell? ⟨X4, 2, none⟩ = some (.slice none 0 0) := (heap_cell hhX4 2).trans rfl; have fX42 : w6.frozen? ⟨X4, 2, none⟩ = false := heap_frozen hhX4 2; clear hhX4)
  obtain ⟨kb, kp, kh⟩ := finAll (vs := [.bool (decide (R.num < 0)), .slice p6 k6 c6, .slice p5 k5 c5]) (HBW.out.trans HB6.out) HHX4.out rfl HGEX4.out (Φ := fun W2 => RC W2 (.agg #[.bool (decide (R.num < 0)), .slice p6 k6 c6, .slice p5 k5 c5]) R) (fun W2 ho => ⟨_, _, rfl, HV6.out.only ho HHX4.out (noInt_rat _ _ _ _ _ _ _), HU6.out.only ho HHX4.out (noInt_rat _ _ _ _ _ _ _)⟩)
  have kk0 : (setAll w6 X4 0 [.bool (decide (R.num < 0)), .slice p6 k6 c6, .slice p5 k5 c5]).cell? ⟨X4, 0, none⟩ = some (.bool (decide (R.num < 0))) := (heap_cell kh 0).trans rfl
  have kk1 : (setAll w6 X4 0 [.bool (decide (R.num < 0)), .slice p6 k6 c6, .slice p5 k5 c5]).cell? ⟨X4, 1, none⟩ = some (.slice p6 k6 c6) := (heap_cell kh 1).trans rfl
  have kk2 : (setAll w6 X4 0 [.bool (decide (R.num < 0)), .slice p6 k6 c6, .slice p5 k5 c5]).cell? ⟨X4, 2, none⟩ = some (.slice p5 k5 c5) := (heap_cell kh 2).trans rfl
  simp only [setAll] at kb kp kk0 kk1 kk2
  exact bodyPost_ret (v := .agg #[.bool (decide (R.num < 0)), .slice p6 k6 c6, .slice p5 k5 c5]) (by simp [results, Tryz.results138, go_sem, kk0, kk1, kk2]) rfl ⟨_, rfl, kb, kp⟩
theorem whole_num (x : Int) : (mkRat x 1).num = x ∧ (mkRat x 1).den = 1 := by
  rw [Rat.num_mkRat, Rat.den_mkRat]
  simp
def Arr2 (s : Bool) (p : Option Addr) (k c : Nat) (n : Nat) (v : Value) (w : World) : Prop := ∃ p' k' c', v = .agg #[.bool s, .slice p k c, .slice p' k' c'] ∧ NC w (.slice p' k' c') n
theorem Arr2.bel {s : Bool} {p : Option Addr} {k c n : Nat} {v : Value} {w w' : World} (h : Arr2 s p k c n v w) (hb : Bel w w') : Arr2 s p k c n v w' := by
  obtain ⟨p', k', c', h1, h2⟩ := h
  exact ⟨p', k', c', h1, h2.bel hb⟩
set_option maxHeartbeats 2000000 in
set_option maxRecDepth 100000 in
theorem mk_whole {w : World} {a : Value} {x : Int} (ha : ZC w a x) : Calls Tryz.prog 96 #[a] w (Makes w fun v w' => RC w' v (mkRat x 1)) := by
  obtain ⟨p1, k1, c1, rfl, hu⟩ := ha.slice
  obtain ⟨hn1, hn2⟩ := whole_num x
  have HO := Lib.hid (fun X => mk_of 1 (by decide) X)
  rw [show ((1 : Nat) : Int) = 1 from rfl] at HO
  have HU := Lib.hid hu
  obtain ⟨R, hR⟩ : ∃ R, mkRat x 1 = R := ⟨_, rfl⟩
  rw [hR] at hn1 hn2 ⊢
  have HN := Lib.hid (And.intro hn1 hn2)
  obtain ⟨s, hs⟩ : ∃ s, decide (x < 0) = s := ⟨_, rfl⟩
  have HS := Lib.hid hs
  rw [hs]
  clear ha hu hR hs hn1 hn2
  go_enter Tryz.func96, Tryz.ntmps96
  go_upto_region 1 with fail
  obtain ⟨hX1, hX2, hbw⟩ := boxes2 w (.cells #[.bool s, .slice p1 k1 c1] 24) (.cells #[.bool false, .slice none 0 0, .slice none 0 0] 26)
  obtain ⟨W, hW⟩ : ∃ W, (w.alloc (.cells #[.bool s, .slice p1 k1 c1] 24)).alloc (.cells #[.bool false, .slice none 0 0, .slice none 0 0] 26) = W := ⟨_, rfl⟩
  rw [hW] at hX1 hX2 hbw ⊢
  obtain ⟨X1, eX1⟩ : ∃ X, w.heap.size = X := ⟨_, rfl⟩
  obtain ⟨X2, eX2⟩ : ∃ X, X1 + 1 = X := ⟨_, rfl⟩
  rw [eX1, eX2]
  rw [eX1] at hX1 hX2
  rw [eX2] at hX2
  have HX1 := Lib.hid hX1
  have HX2 := Lib.hid hX2
  have HBW := Lib.hid hbw
  have HGEX1 : Hid (w.heap.size ≤ X1) := by unfold Hid; omega
  have HGEX2 : Hid (w.heap.size ≤ X2) := by unfold Hid; omega
  have HLT : Hid (X1 < X2) := by unfold Hid; omega
  clear hW hbw hX1 hX2 eX1 eX2
  refine region_flow 3 [[], [], [0, 1]] [.is (.agg #[.bool s, .slice p1 k1 c1]), .has (fun v w => NC w v 1), .has (Arr2 s p1 k1 c1 1)] (by kernel_rfl) (by kernel_rfl) rfl (by simp only [Steady]; exact ⟨fun _ _ _ h hb => h.bel hb, fun _ _ _ h hb => h.bel hb, trivial⟩) ?_
  simp only [List.take_succ_cons, List.take_zero, List.drop_succ_cons, List.drop_zero]
  refine fV (by rfl) (by intro w1 hw1 hk1; obtain ⟨c0, c1⟩ := boxc2 (hw1.heap HX1.out); go_simp) ?_
  simp only [Act.put, sA, sB, sC]
  refine fH (by rfl) (by intro w1 hw1 hk1; exact HO.out _) (by intro; go_simp) (fun v1 => ?_)
  simp only [Act.put, sA, sB, sC]
  refine flow_has (by intro w1 hw1 hk1; obtain ⟨g1, -⟩ := hk1; obtain ⟨p, c, k, rfl, -⟩ := g1.slice; refine want (by rfl) (gives_of (c := .agg #[.bool s, .slice p1 k1 c1, .slice p k c]) (by go_simp) ?_); exact ⟨p, k, c, rfl, g1⟩) (fun v2 => ?_)
  simp only [Act.put, sA, sB, sC]
  intro w1 hw1 hk1
  obtain ⟨g2, g1, -⟩ := hk1
  obtain ⟨p5, k5, c5, rfl, hd⟩ := g2
  have HD := Lib.hid hd
  have HB3 := Lib.hid hw1
  have HU6 := Lib.hid (HU.out.bel (HBW.out.trans hw1))
  have hhX2 := (hw1).heap HX2.out
  have HHX2 := Lib.hid hhX2
  have dX20 : w1.cell? ⟨X2, 0, none⟩ = some (.bool false) := (heap_cell hhX2 0).trans rfl
  have fX20 : w1.frozen? ⟨X2, 0, none⟩ = false := heap_frozen hhX2 0
  have dX21 : w1.cell? ⟨X2, 1, none⟩ = some (.slice none 0 0) := (heap_cell hhX2 1).trans rfl
  have fX21 : w1.frozen? ⟨X2, 1, none⟩ = false := heap_frozen hhX2 1
  have dX22 : w1.cell? ⟨X2, 2, none⟩ = some (.slice none 0 0) := (heap_cell hhX2 2).trans rfl
  have fX22 : w1.frozen? ⟨X2, 2, none⟩ = false := heap_frozen hhX2 2
  clear hhX2
  clear hd hw1 g1
  go_wp2
  obtain ⟨kb, kp, kh⟩ := finAll (vs := [.bool s, .slice p1 k1 c1, .slice p5 k5 c5]) (HBW.out.trans HB3.out) HHX2.out rfl HGEX2.out (Φ := fun W2 => RC W2 (.agg #[.bool s, .slice p1 k1 c1, .slice p5 k5 c5]) R) (fun W2 ho => ⟨_, _, by rw [HN.out.1, HS.out], by rw [HN.out.1]; exact HU6.out.only ho HHX2.out (noInt_rat _ _ _ _ _ _ _), by rw [HN.out.2]; exact HD.out.only ho HHX2.out (noInt_rat _ _ _ _ _ _ _)⟩)
  have kk0 : (setAll w1 X2 0 [.bool s, .slice p1 k1 c1, .slice p5 k5 c5]).cell? ⟨X2, 0, none⟩ = some (.bool s) := (heap_cell kh 0).trans rfl
  have kk1 : (setAll w1 X2 0 [.bool s, .slice p1 k1 c1, .slice p5 k5 c5]).cell? ⟨X2, 1, none⟩ = some (.slice p1 k1 c1) := (heap_cell kh 1).trans rfl
  have kk2 : (setAll w1 X2 0 [.bool s, .slice p1 k1 c1, .slice p5 k5 c5]).cell? ⟨X2, 2, none⟩ = some (.slice p5 k5 c5) := (heap_cell kh 2).trans rfl
  simp only [setAll] at kb kp kk0 kk1 kk2
  exact bodyPost_ret (v := .agg #[.bool s, .slice p1 k1 c1, .slice p5 k5 c5]) (by simp [results, Tryz.results96, go_sem, kk0, kk1, kk2]) rfl ⟨_, rfl, kb, kp⟩
theorem mk_bits {w : World} {a : Value} {n : Nat} (ha : NI w a n) : Calls Tryz.prog 137 #[a] w (fun e w' => ∃ B : Nat, e = .returned (.int .i64 (B : Int)) ∧ w' = w ∧ (B = 0 ↔ n = 0)) := by
  obtain ⟨p1, c1, l1, rfl, r1, q1, rfl, k1⟩ := ha
  refine (natBits_any p1 c1 l1 w r1 (by omega)).mono ?_
  rintro e w' ⟨B, rfl, rfl, h1, h2, h3⟩
  exact ⟨B, rfl, rfl, fun hB => by rcases Nat.eq_zero_or_pos (valB B64 l1) with h | h; exact h; have := (h3 h).1; omega, h2⟩
set_option maxHeartbeats 2000000 in
set_option maxRecDepth 100000 in
theorem mk_rgood {w : World} {a : Value} {q : Rat} (ha : RI w a q) : Calls Tryz.prog 90 #[a] w (Makes w fun v w' => RC w' v q) := by
  obtain ⟨s, p1, k1, c1, p2, k2, c2, m, n, rfl, hu, hd, hq⟩ := ha.slice
  have hfm := hu.fit
  have HZ : Hid (∀ X (_ : Bel w X), _) := fun X hX => mk_zadd (w := X) (ZI.mk (s := s) (hu.bel hX)) (ni_zero_int X) (by rw [Int.add_zero, sgn_abs]; exact hfm)
  rw [Int.add_zero] at HZ
  have HBT := Lib.hid (fun X (hX : Bel w X) => mk_bits (hd.bel hX))
  have HMD : Hid (∀ X (_ : Bel w X) v, ZC X v (sgnI s m) → n ≠ 0 → _) := fun X hX v hv h0 => mk_rmade (hv.zi (by rw [sgn_abs]; exact hfm)) (hd.bel hX) h0
  have HWH : Hid (∀ X v, ZC X v (sgnI s m) → _) := fun X v hv => mk_whole hv
  have hq1 : n = 0 → mkRat (sgnI s m) 1 = q := fun h => by rw [← hq, ratOf, if_pos h]
  have hq2 : n ≠ 0 → mkRat (sgnI s m) n = q := fun h => by rw [← hq, ratOf, if_neg h]
  obtain ⟨x, hx⟩ : ∃ x, sgnI s m = x := ⟨_, rfl⟩
  rw [hx] at HZ HMD HWH hq1 hq2
  have HQ1 := Lib.hid hq1
  have HQ2 := Lib.hid hq2
  clear ha hu hd hq hfm hx hq1 hq2
  go_enter Tryz.func90, Tryz.ntmps90
  go_upto_region 1 with fail
  obtain ⟨hX1, hX2, hbw⟩ := boxes2 w (.cells #[.bool s, .slice p1 k1 c1, .slice p2 k2 c2] 26) (.cells #[.bool false, .slice none 0 0, .slice none 0 0] 26)
  obtain ⟨W, hW⟩ : ∃ W, (w.alloc (.cells #[.bool s, .slice p1 k1 c1, .slice p2 k2 c2] 26)).alloc (.cells #[.bool false, .slice none 0 0, .slice none 0 0] 26) = W := ⟨_, rfl⟩
  rw [hW] at hX1 hX2 hbw ⊢
  obtain ⟨X1, eX1⟩ : ∃ X, w.heap.size = X := ⟨_, rfl⟩
  obtain ⟨X2, eX2⟩ : ∃ X, X1 + 1 = X := ⟨_, rfl⟩
  rw [eX1, eX2]
  rw [eX1] at hX1 hX2
  rw [eX2] at hX2
  have HX1 := Lib.hid hX1
  have HX2 := Lib.hid hX2
  have HBW := Lib.hid hbw
  have HGEX1 : Hid (w.heap.size ≤ X1) := by unfold Hid; omega
  have HGEX2 : Hid (w.heap.size ≤ X2) := by unfold Hid; omega
  have HLT : Hid (X1 < X2) := by unfold Hid; omega
  clear hW hbw hX1 hX2 eX1 eX2
  have d0 : W.cell? ⟨X1, 0, none⟩ = some (.bool s) := (heap_cell HX1.out 0).trans rfl
  have d1 : W.cell? ⟨X1, 1, none⟩ = some (.slice p1 k1 c1) := (heap_cell HX1.out 1).trans rfl
  have d2 : W.cell? ⟨X1, 2, none⟩ = some (.slice p2 k2 c2) := (heap_cell HX1.out 2).trans rfl
  go_upto_region 2 with (go_at_call 136; (with_reducible refine (HZ.out _ HBW.out).mono ?_); rintro e w3 ⟨v3, rfl, hb3, hv3⟩; obtain ⟨p3, k3, c3, rfl, -⟩ := hv3.slice; have HB3 := Lib.hid hb3; have HV3 := Lib.hid hv3; clear hb3 hv3)
  obtain ⟨X3, hX3⟩ : ∃ X, w3.heap.size = X := ⟨_, rfl⟩
  rw [hX3]
  obtain ⟨sx, hsx⟩ : ∃ s, decide (x < 0) = s := ⟨_, rfl⟩
  rw [hsx] at HV3 ⊢
  have hx3 : (w3.alloc (.cells #[.bool sx, .slice p3 k3 c3] 24)).heap[X3]? = some (.cells #[.bool sx, .slice p3 k3 c3] 24 (0, 0)) := alloc_heap hX3
  have hb4 : Bel W (w3.alloc (.cells #[.bool sx, .slice p3 k3 c3] 24)) := HB3.out.alloc _
  have hv4 := HV3.out.bel ((Bel.refl w3).alloc (.cells #[.bool sx, .slice p3 k3 c3] 24))
  obtain ⟨W4, hW4⟩ : ∃ W, w3.alloc (.cells #[.bool sx, .slice p3 k3 c3] 24) = W := ⟨_, rfl⟩
  rw [hW4] at hx3 hb4 hv4 ⊢
  have HX3 := Lib.hid hx3
  have HB4 := Lib.hid hb4
  have HV4 := Lib.hid hv4
  have e0 := hb4.cell d0
  have e2 := hb4.cell d2
  have y0 : W4.cell? ⟨X3, 0, none⟩ = some (.bool sx) := (heap_cell hx3 0).trans rfl
  have y1 : W4.cell? ⟨X3, 1, none⟩ = some (.slice p3 k3 c3) := (heap_cell hx3 1).trans rfl
  have hhX2 := (hb4).heap HX2.out
  have HHX2 := Lib.hid hhX2
  have dX20 : W4.cell? ⟨X2, 0, none⟩ = some (.bool false) := (heap_cell hhX2 0).trans rfl
  have fX20 : W4.frozen? ⟨X2, 0, none⟩ = false := heap_frozen hhX2 0
  have dX21 : W4.cell? ⟨X2, 1, none⟩ = some (.slice none 0 0) := (heap_cell hhX2 1).trans rfl
  have fX21 : W4.frozen? ⟨X2, 1, none⟩ = false := heap_frozen hhX2 1
  have dX22 : W4.cell? ⟨X2, 2, none⟩ = some (.slice none 0 0) := (heap_cell hhX2 2).trans rfl
  have fX22 : W4.frozen? ⟨X2, 2, none⟩ = false := heap_frozen hhX2 2
  clear hhX2
  clear hX3 hx3 hb4 hv4 hW4 hsx d0 d1 d2
  by_cases hn : n = 0
  · have hQ := HQ1.out hn
    have HBT0 := Lib.hid ((HBT.out _ (HBW.out.trans HB4.out)).mono (fun (e : Ending) w' (⟨B, h1, h2, h3⟩ : ∃ B : Nat, e = Ending.returned (.int .i64 (B : Int)) ∧ w' = W4 ∧ (B = 0 ↔ n = 0)) => (show e = Ending.returned (.int .i64 0) ∧ w' = W4 from ⟨by rw [h1, h3.2 hn]; rfl, h2⟩)))
    have HQ := Lib.hid hQ
    clear hn hQ
    go_wp2_with (first
      | (go_at_call 137; (with_reducible refine HBT0.out.mono ?_); rintro e w5 ⟨rfl, hw5⟩; obtain rfl := hw5.symm; clear hw5)
      | (go_at_call 96; (with_reducible refine (HWH.out _ _ HV4.out).mono ?_); rintro e w6 ⟨v6, rfl, hb6, hv6⟩; obtain ⟨p6, k6, c6, p7, k7, c7, rfl, -⟩ := hv6.slice; have HB6 := Lib.hid (HB4.out.trans hb6); rw [HQ.out] at hv6; have HV6 := Lib.hid hv6; clear hb6; have hhX2 := (HB6.out).heap HX2.out; have HHX2 := Lib.hid hhX2; have dX20 : w6.cell? ⟨X2, 0, none⟩ = some (.bool false) := (heap_cell hhX2 0).trans rfl; have fX20 : w6.frozen? ⟨X2, 0, none⟩ = false := heap_frozen hhX2 0; have dX21 : w6.cell? ⟨X2, 1, none⟩ = some (.slice none 0 0) := (heap_cell hhX2 1).trans rfl; have fX21 : w6.frozen? ⟨X2, 1, none⟩ = false := heap_frozen hhX2 1; have dX22 : w6.cell? ⟨X2, 2, none⟩ = some (.slice none 0 0) := (heap_cell hhX2 2).trans rfl; have fX22 : w6.frozen? ⟨X2, 2, none⟩ = false := heap_frozen hhX2 2; clear hhX2; rw [HQ.out]))
    obtain ⟨kb, kp, kh⟩ := finAll (vs := [.bool (decide (q.num < 0)), .slice p6 k6 c6, .slice p7 k7 c7]) (HBW.out.trans HB6.out) HHX2.out rfl HGEX2.out (Φ := fun W2 => RC W2 (.agg #[.bool (decide (q.num < 0)), .slice p6 k6 c6, .slice p7 k7 c7]) q) (fun W2 ho => HV6.out.only ho HHX2.out (noInt_rat _ _ _ _ _ _ _))
    have kk0 : (setAll w6 X2 0 [.bool (decide (q.num < 0)), .slice p6 k6 c6, .slice p7 k7 c7]).cell? ⟨X2, 0, none⟩ = some (.bool (decide (q.num < 0))) := (heap_cell kh 0).trans rfl
    have kk1 : (setAll w6 X2 0 [.bool (decide (q.num < 0)), .slice p6 k6 c6, .slice p7 k7 c7]).cell? ⟨X2, 1, none⟩ = some (.slice p6 k6 c6) := (heap_cell kh 1).trans rfl
    have kk2 : (setAll w6 X2 0 [.bool (decide (q.num < 0)), .slice p6 k6 c6, .slice p7 k7 c7]).cell? ⟨X2, 2, none⟩ = some (.slice p7 k7 c7) := (heap_cell kh 2).trans rfl
    simp only [setAll] at kb kp kk0 kk1 kk2
    exact bodyPost_ret (v := .agg #[.bool (decide (q.num < 0)), .slice p6 k6 c6, .slice p7 k7 c7]) (by simp [results, Tryz.results90, go_sem, kk0, kk1, kk2]) rfl ⟨_, rfl, kb, kp⟩
  · have hQ := HQ2.out hn
    have HBT0 := Lib.hid ((HBT.out _ (HBW.out.trans HB4.out)).mono (fun (e : Ending) w' (⟨B, h1, h2, h3⟩ : ∃ B : Nat, e = Ending.returned (.int .i64 (B : Int)) ∧ w' = W4 ∧ (B = 0 ↔ n = 0)) => (show ∃ B : Nat, e = Ending.returned (.int .i64 (B : Int)) ∧ w' = W4 ∧ ((B : Int) == 0) = false from ⟨B, h1, h2, beq_false_of_ne (fun e => hn (h3.1 (by omega)))⟩)))
    have HQ := Lib.hid hQ
    have HN := Lib.hid hn
    clear hn hQ
    go_wp2_with (first
      | (go_at_call 137; (with_reducible refine HBT0.out.mono ?_); rintro e w5 ⟨B5, rfl, hw5, hB5⟩; obtain rfl := hw5.symm; clear hw5)
      | (go_at_call 138; (with_reducible refine (HMD.out _ (HBW.out.trans HB4.out) _ HV4.out HN.out).mono ?_); rintro e w6 ⟨v6, rfl, hb6, hv6⟩; obtain ⟨p6, k6, c6, p7, k7, c7, rfl, -⟩ := hv6.slice; have HB6 := Lib.hid (HB4.out.trans hb6); rw [HQ.out] at hv6; have HV6 := Lib.hid hv6; clear hb6; have hhX2 := (HB6.out).heap HX2.out; have HHX2 := Lib.hid hhX2; have dX20 : w6.cell? ⟨X2, 0, none⟩ = some (.bool false) := (heap_cell hhX2 0).trans rfl; have fX20 : w6.frozen? ⟨X2, 0, none⟩ = false := heap_frozen hhX2 0; have dX21 : w6.cell? ⟨X2, 1, none⟩ = some (.slice none 0 0) := (heap_cell hhX2 1).trans rfl; have fX21 : w6.frozen? ⟨X2, 1, none⟩ = false := heap_frozen hhX2 1; have dX22 : w6.cell? ⟨X2, 2, none⟩ = some (.slice none 0 0) := (heap_cell hhX2 2).trans rfl; have fX22 : w6.frozen? ⟨X2, 2, none⟩ = false := heap_frozen hhX2 2; clear hhX2; rw [HQ.out]))
    obtain ⟨kb, kp, kh⟩ := finAll (vs := [.bool (decide (q.num < 0)), .slice p6 k6 c6, .slice p7 k7 c7]) (HBW.out.trans HB6.out) HHX2.out rfl HGEX2.out (Φ := fun W2 => RC W2 (.agg #[.bool (decide (q.num < 0)), .slice p6 k6 c6, .slice p7 k7 c7]) q) (fun W2 ho => HV6.out.only ho HHX2.out (noInt_rat _ _ _ _ _ _ _))
    have kk0 : (setAll w6 X2 0 [.bool (decide (q.num < 0)), .slice p6 k6 c6, .slice p7 k7 c7]).cell? ⟨X2, 0, none⟩ = some (.bool (decide (q.num < 0))) := (heap_cell kh 0).trans rfl
    have kk1 : (setAll w6 X2 0 [.bool (decide (q.num < 0)), .slice p6 k6 c6, .slice p7 k7 c7]).cell? ⟨X2, 1, none⟩ = some (.slice p6 k6 c6) := (heap_cell kh 1).trans rfl
    have kk2 : (setAll w6 X2 0 [.bool (decide (q.num < 0)), .slice p6 k6 c6, .slice p7 k7 c7]).cell? ⟨X2, 2, none⟩ = some (.slice p7 k7 c7) := (heap_cell kh 2).trans rfl
    simp only [setAll] at kb kp kk0 kk1 kk2
    exact bodyPost_ret (v := .agg #[.bool (decide (q.num < 0)), .slice p6 k6 c6, .slice p7 k7 c7]) (by simp [results, Tryz.results90, go_sem, kk0, kk1, kk2]) rfl ⟨_, rfl, kb, kp⟩
theorem onDisable (w : World) : (callFunc 217 #[]).run Tryz.prog w = .ok (.value (.tuple #[])) w := run_call_mark0 Tryz.func217 (by kernel_rfl) (by kernel_rfl) (by kernel_rfl) .disable (by kernel_rfl) w
theorem onEnable (w : World) : (callFunc 219 #[]).run Tryz.prog w = .ok (.value (.tuple #[])) w := run_call_mark0 Tryz.func219 (by kernel_rfl) (by kernel_rfl) (by kernel_rfl) .enable (by kernel_rfl) w
theorem onAcquire (a : Addr) (w : World) : (callFunc 220 #[.pointer (some a)]).run Tryz.prog w = .ok (.value (.tuple #[])) w := run_call_marked Tryz.func220 (by kernel_rfl) (by kernel_rfl) (by kernel_rfl) .acquire (by kernel_rfl) a w
theorem onRelease (a : Addr) (w : World) : (callFunc 222 #[.pointer (some a)]).run Tryz.prog w = .ok (.value (.tuple #[])) w := run_call_marked Tryz.func222 (by kernel_rfl) (by kernel_rfl) (by kernel_rfl) .releaseMerge (by kernel_rfl) a w
theorem store_deferred (a : Addr) (x : Value) (u : FrameMode) (w : World) (hc : w.cell? a = some x) (hz : w.frozen? a = false) :
    CallsD Tryz.prog 186 #[.pointer (some a), .bool true] u w fun e u' w' => u' = u ∧ (e = .returned (.tuple #[]) ∧ w' = w.drew.setCell a (.int .u32 1)) := by
  have hc' : w.drew.cell? a = some x := by go_simp
  have hz' : w.drew.frozen? a = false := by go_simp
  have hst := run_call_store (P := Tryz.prog) Tryz.func210 (by kernel_rfl) (by kernel_rfl) (by kernel_rfl) (by kernel_rfl) (k := .u32) (y := 1) hc' hz'
  go_enter_d Tryz.func186, Tryz.ntmps186
  go_wp2
  go_region_calls
  all_goals (go_end0; exact ⟨rfl, rfl⟩)
set_option maxHeartbeats 1000000 in
set_option maxRecDepth 100000 in
theorem unlock_deferred (a : Addr) (u : FrameMode) (w : World) (hc : w.cell? a = some (.int .i32 1)) (hz : w.frozen? a = false) :
    CallsD Tryz.prog 185 #[.pointer (some a)] u w fun e u' w' => u' = u ∧ (e = .returned (.tuple #[]) ∧ w' = w.setCell a (.int .i32 0)) := by
  have hd := onDisable
  have he := onEnable
  have hr := onRelease
  have hadd := run_call_add (P := Tryz.prog) Tryz.func223 (by kernel_rfl) (by kernel_rfl) (by kernel_rfl) .i32 (by kernel_rfl) (y := -1) (s := 0) hc hz (by simp [go_sem]; rfl)
  have hcv := run_convert_to_unsafe (P := Tryz.prog) (src := 252) (dst := 256) Tryz.underlying252 Tryz.underlying256 (by kernel_rfl) hc
  go_enter_d Tryz.func185, Tryz.ntmps185
  go_wp2
  go_end0
  go_wp2
  go_end0
  exact ⟨rfl, rfl⟩
set_option maxHeartbeats 1000000 in
set_option maxRecDepth 100000 in
theorem lock_free (a : Addr) (w : World) (hc : w.cell? a = some (.int .i32 0)) (hz : w.frozen? a = false) :
    Calls Tryz.prog 184 #[.pointer (some a)] w fun e w' => e = .returned (.tuple #[]) ∧ w' = w.setCell a (.int .i32 1) := by
  have hd := onDisable
  have he := onEnable
  have ha := onAcquire
  have hcas := run_call_cas_hit (P := Tryz.prog) Tryz.func218 (by kernel_rfl) (by kernel_rfl) (by kernel_rfl) .i32 (by kernel_rfl) (y := 1) hc hz
  have hc' : (w.setCell a (.int .i32 1)).cell? a = some (.int .i32 1) := World.cell?_setCell_same' w a _ (by rw [hc]; rfl)
  have hcv := run_convert_to_unsafe (P := Tryz.prog) (src := 252) (dst := 256) Tryz.underlying252 Tryz.underlying256 (by kernel_rfl) hc'
  go_enter Tryz.func184, Tryz.ntmps184
  go_wp2
  first | go_end0 | (simp only [Exit.inBlock, Exit.then]; refine bodyPost_ret (results_none rfl _ _ _) rfl ?_) | refine bodyPost_ret (results_none rfl _ _ _) rfl ?_
  go_wp2
  go_end0
  exact ⟨rfl, rfl⟩
set_option maxHeartbeats 2000000 in
set_option maxRecDepth 100000 in
theorem once_slow (b fid : Nat) (w : World) (Post : World → Prop) (h0 : w.cell? ⟨b, 0, none⟩ = some (.int .u32 0)) (h1 : w.cell? ⟨b, 1, none⟩ = some (.int .i32 0)) (_ : w.frozen? ⟨b, 0, none⟩ = false) (f1 : w.frozen? ⟨b, 1, none⟩ = false)
    (hent : ∀ w, (callFunc fid #[.pointer (some ⟨b, 0, none⟩)]).run Tryz.prog w = .ok (.enter fid #[.pointer (some ⟨b, 0, none⟩)]) w) (hf : Calls Tryz.prog fid #[.pointer (some ⟨b, 0, none⟩)] (w.setCell ⟨b, 1, none⟩ (.int .i32 1)) fun e w' => e = .returned (.tuple #[]) ∧ Post w')
    (hp : ∀ w', Post w' → w'.cell? ⟨b, 0, none⟩ = some (.int .u32 0) ∧ w'.cell? ⟨b, 1, none⟩ = some (.int .i32 1) ∧ w'.frozen? ⟨b, 0, none⟩ = false ∧ w'.frozen? ⟨b, 1, none⟩ = false) :
    Calls Tryz.prog 150 #[.pointer (some ⟨b, 0, none⟩), .func (.func fid) #[.pointer (some ⟨b, 0, none⟩)] #[]] w fun e w' => e = .returned (.tuple #[]) ∧ ∃ w1, Post w1 ∧ w' = (w1.drew.setCell ⟨b, 0, none⟩ (.int .u32 1)).setCell ⟨b, 1, none⟩ (.int .i32 0) := by
  have hl := run_call_load (P := Tryz.prog) Tryz.func183 (by kernel_rfl) (by kernel_rfl) (by kernel_rfl) .u32 (by kernel_rfl) (w := w.setCell ⟨b, 1, none⟩ (.int .i32 1)) (a := ⟨b, 0, none⟩) (x := 0) ((World.cell?_setCell_other _ ⟨b, 1, none⟩ ⟨b, 0, none⟩ _ (by simp)).trans h0)
  have hnot : ∀ (x : Bool) (w : World), (Op.unary .not (.bool x)).run Tryz.prog w = .ok (.bool (!x)) w := fun _ _ => rfl
  have HF := Lib.hid hf
  have HP := Lib.hid hp
  clear hf hp
  go_enter_defers Tryz.func150, Tryz.ntmps150
  go_wp2_with (go_at_call 184; refine (lock_free ⟨b, 1, none⟩ _ (by go_simp) (by go_simp)).mono ?_; rintro e w' ⟨rfl, rfl⟩)
  go_wp2
  refine HF.out.mono ?_
  rintro e w1 ⟨rfl, hp1⟩
  obtain ⟨g0, g1, g2, g3⟩ := HP.out w1 hp1
  have HP1 := Lib.hid hp1
  clear hp1 hent
  go_wp2
  refine leaves_cons (f := 186) (args := #[.pointer (some ⟨b, 0, none⟩), .bool true]) (by simp) (by simp [go_sem]) ?_
  refine (store_deferred ⟨b, 0, none⟩ (.int .u32 0) .returning _ g0 g2).mono ?_
  rintro e u' w'' ⟨rfl, rfl, rfl⟩
  refine leaves_cons (f := 185) (args := #[.pointer (some ⟨b, 1, none⟩)]) (by simp [settle]) (by simp [go_sem]) ?_
  refine (unlock_deferred ⟨b, 1, none⟩ _ _ ?_ (by simp [g3])).mono ?_
  · refine (World.cell?_setCell_other _ ⟨b, 0, none⟩ ⟨b, 1, none⟩ _ (by simp)).trans ?_
    rw [World.cell?_drew]
    exact g1
  rintro e u' w'' ⟨rfl, rfl, rfl⟩
  have hfin : ∃ w2, Post w2 ∧ (w1.drew.setCell ⟨b, 0, none⟩ (.int .u32 1)).setCell ⟨b, 1, none⟩ (.int .i32 0) = (w2.drew.setCell ⟨b, 0, none⟩ (.int .u32 1)).setCell ⟨b, 1, none⟩ (.int .i32 0) := ⟨w1, HP1.out, rfl⟩
  simp [Leaves, settle, results, Tryz.results150]
  exact hfin
set_option maxHeartbeats 2000000 in
set_option maxRecDepth 100000 in
theorem once_do (b fid : Nat) (w : World) (Post : World → Prop) (h0 : w.cell? ⟨b, 0, none⟩ = some (.int .u32 0)) (h1 : w.cell? ⟨b, 1, none⟩ = some (.int .i32 0)) (f0 : w.frozen? ⟨b, 0, none⟩ = false) (f1 : w.frozen? ⟨b, 1, none⟩ = false)
    (hent : ∀ w, (callFunc fid #[.pointer (some ⟨b, 0, none⟩)]).run Tryz.prog w = .ok (.enter fid #[.pointer (some ⟨b, 0, none⟩)]) w) (hf : Calls Tryz.prog fid #[.pointer (some ⟨b, 0, none⟩)] (w.setCell ⟨b, 1, none⟩ (.int .i32 1)) fun e w' => e = .returned (.tuple #[]) ∧ Post w')
    (hp : ∀ w', Post w' → w'.cell? ⟨b, 0, none⟩ = some (.int .u32 0) ∧ w'.cell? ⟨b, 1, none⟩ = some (.int .i32 1) ∧ w'.frozen? ⟨b, 0, none⟩ = false ∧ w'.frozen? ⟨b, 1, none⟩ = false) :
    Calls Tryz.prog 110 #[.pointer (some ⟨b, 0, none⟩), .func (.func fid) #[.pointer (some ⟨b, 0, none⟩)] #[]] w fun e w' => e = .returned (.tuple #[]) ∧ ∃ w1, Post w1 ∧ w' = (w1.drew.setCell ⟨b, 0, none⟩ (.int .u32 1)).setCell ⟨b, 1, none⟩ (.int .i32 0) := by
  have HS := Lib.hid (once_slow b fid w Post h0 h1 f0 f1 hent hf hp)
  have hl := run_call_load (P := Tryz.prog) Tryz.func183 (by kernel_rfl) (by kernel_rfl) (by kernel_rfl) .u32 (by kernel_rfl) h0
  have hnot : ∀ (x : Bool) (w : World), (Op.unary .not (.bool x)).run Tryz.prog w = .ok (.bool (!x)) w := fun _ _ => rfl
  clear hf hp hent
  go_enter Tryz.func110, Tryz.ntmps110
  go_wp2_with (first | (go_at_call 150; refine HS.out.mono ?_; rintro e w' ⟨rfl, hx⟩; have HX := Lib.hid hx; clear hx) | (go_at_call 149; go_in))
  go_end0
  exact ⟨rfl, HX.out⟩
end Go.Proofs.YtafmfnpjhhaikaaGreatDoor
