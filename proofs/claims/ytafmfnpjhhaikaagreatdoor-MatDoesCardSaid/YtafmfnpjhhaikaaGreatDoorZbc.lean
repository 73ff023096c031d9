/-
  Maps in the evaluator.
-/
import Derived.Test.YtafmfnpjhhaikaaGreatDoorZax
import Derived.Test.YtafmfnpjhhaikaaGreatDoorZbb
import Derived.Test.YtafmfnpjhhaikaaGreatDoorZba
import Derived.Test.YtafmfnpjhhaikaaGreatDoorZat
import Derived.Test.YtafmfnpjhhaikaaGreatDoorZan
namespace Go.Proofs.YtafmfnpjhhaikaaGreatDoor
open Go.RowKit Go.Shelf

def cMsame : Con
  | [x, y] => match asRats 6 x, asRats 6 y with
    | some [(a, a'), (b, b'), (c, c'), (d, d'), (e, e'), (f, f')], some [(g, g'), (h, h'), (i, i'), (j, j'), (k, k'), (l, l')] => .chk ((4 * ((a' + b' + c' + d' + e' + f') + (g' + h' + i' + j' + k' + l')) + 4).blt LimK) (.leaf (.one [.sym (.bool (decide (a = g ∧ b = h ∧ c = i ∧ d = j ∧ e = k ∧ f = l)))]))
    | _, _ => .fail
  | _ => .fail
theorem ok_msame : OkCon Tryz.prog 64 cMsame := ⟨fun vs w => Go.MuLone.run_callFunc_enter Tryz.func64 rfl rfl vs w, fun args t hg C w vs _ ha => by
  unfold cMsame at hg
  split at hg
  · split at hg
    · rename_i a a' b b' c c' d d' e e' f f' g g' h h' i i' j j' k k' l l' hx hy
      obtain ⟨hl, rfl⟩ := hg
      have hl := Nat.ble_eq.mp hl
      obtain ⟨u, v, rfl, h1, h2⟩ := all2 ha
      exact (au_msame (asMat_has h1 hx (by dsimp only; omega)) (asMat_has h2 hy (by dsimp only; omega)) (by dsimp only; omega)).mono fun _ _ h => h.imp fun _ h => by subst h; exact one_of rfl
    · exact hg.elim
  · exact hg.elim⟩
noncomputable def cons7 := fnsOf cons6 [(112, Tryz.f112), (108, Tryz.f108), (109, Tryz.f109), (102, Tryz.f102), (100, Tryz.f100)]
theorem cons7_ok : AllCon Tryz.prog cons7 := fns_ok cons6_ok ⟨⟨Tryz.func112, rfl, rfl⟩, ⟨Tryz.func108, rfl, rfl⟩, ⟨Tryz.func109, rfl, rfl⟩, ⟨Tryz.func102, rfl, rfl⟩, ⟨Tryz.func100, rfl, rfl⟩, trivial⟩
noncomputable def cons8 := fnsOf cons7 [(67, Tryz.f67), (63, Tryz.f63), (101, Tryz.f101)]
theorem cons8_ok : AllCon Tryz.prog cons8 := fns_ok cons7_ok ⟨⟨Tryz.func67, rfl, rfl⟩, ⟨Tryz.func63, rfl, rfl⟩, ⟨Tryz.func101, rfl, rfl⟩, trivial⟩
noncomputable def cons9 := fnsOf cons8 [(59, Tryz.f59), (54, Tryz.f54), (69, Tryz.f69), (51, Tryz.f51)]
theorem cons9_ok : AllCon Tryz.prog cons9 := fns_ok cons8_ok ⟨⟨Tryz.func59, rfl, rfl⟩, ⟨Tryz.func54, rfl, rfl⟩, ⟨Tryz.func69, rfl, rfl⟩, ⟨Tryz.func51, rfl, rfl⟩, trivial⟩
noncomputable def cons10 := (64, cMsame) :: fnsOf cons9 [(61, Tryz.f61)]
theorem cons10_ok : AllCon Tryz.prog cons10 := ⟨ok_msame, fns_ok cons9_ok ⟨⟨Tryz.func61, rfl, rfl⟩, trivial⟩⟩
theorem ok_wakes09 : OkCon Tryz.prog 52 cTrue := ok_wakes cons10_ok Tryz.func52 rfl rfl (.inr (by kernel_rfl))
noncomputable def cons11 := (52, cTrue) :: cons10
theorem cons11_ok : AllCon Tryz.prog cons11 := ⟨ok_wakes09, cons10_ok⟩
end Go.Proofs.YtafmfnpjhhaikaaGreatDoor

/-
  gessoref09 in contracts (printed by gen_evw.py).
-/
namespace Go.Proofs.YtafmfnpjhhaikaaGreatDoor
open Go.RowKit Go.Shelf

theorem all_app {P : Program} : ∀ {l m : List (FuncId × Con)}, AllCon P l → AllCon P m → AllCon P (l ++ m)
  | [], _, _, h => h
  | _ :: _, _, h, h' => ⟨h.1, all_app h.2 h'⟩
noncomputable def consW0 := consU6 ++ cons11
theorem consW0_ok : AllCon Tryz.prog consW0 := all_app consU6_ok cons11_ok
noncomputable def consW1 := fnsOf consW0 [(89, Tryz.f89), (53, Tryz.f53), (66, Tryz.f66), (68, Tryz.f68), (107, Tryz.f107), (55, Tryz.f55), (65, Tryz.f65)]
theorem consW1_ok : AllCon Tryz.prog consW1 := fns_ok consW0_ok ⟨⟨Tryz.func89, rfl, rfl⟩, ⟨Tryz.func53, rfl, rfl⟩, ⟨Tryz.func66, rfl, rfl⟩, ⟨Tryz.func68, rfl, rfl⟩, ⟨Tryz.func107, rfl, rfl⟩, ⟨Tryz.func55, rfl, rfl⟩, ⟨Tryz.func65, rfl, rfl⟩, trivial⟩
noncomputable def consW2 := fnsOf consW1 [(60, Tryz.f60), (70, Tryz.f70), (57, Tryz.f57)]
theorem consW2_ok : AllCon Tryz.prog consW2 := fns_ok consW1_ok ⟨⟨Tryz.func60, rfl, rfl⟩, ⟨Tryz.func70, rfl, rfl⟩, ⟨Tryz.func57, rfl, rfl⟩, trivial⟩
noncomputable def consW3 := fnsOf consW2 [(62, Tryz.f62), (58, Tryz.f58)]
theorem consW3_ok : AllCon Tryz.prog consW3 := fns_ok consW2_ok ⟨⟨Tryz.func62, rfl, rfl⟩, ⟨Tryz.func58, rfl, rfl⟩, trivial⟩
end Go.Proofs.YtafmfnpjhhaikaaGreatDoor

/-
  gessolaw09.MatMakes (printed by gen_mm.py).
-/
namespace Go.Proofs.YtafmfnpjhhaikaaGreatDoor
open Go.RowKit Go.Shelf

set_option maxRecDepth 100000 in
theorem matMakes_t (a b c d e f : Int) : (exFn (envOf consW3) Tryz.f9 [[.sym (.int .i64 a), .sym (.int .i64 b), .sym (.int .i64 c), .sym (.int .i64 d), .sym (.int .i64 e), .sym (.int .i64 f)]]).clean = .need ((fitsB a && fitsB 65536 && decide (0 < 65536)) = true) (.need ((fitsB b && fitsB 65536 && decide (0 < 65536)) = true) (.need ((fitsB c && fitsB 65536 && decide (0 < 65536)) = true) (.need ((fitsB d && fitsB 65536 && decide (0 < 65536)) = true) (.need ((fitsB e && fitsB 64 && decide (0 < 64)) = true) (.need ((fitsB f && fitsB 64 && decide (0 < 64)) = true) (.need ((fitsB a && decide (0 < 65536) && decide (65536 < 4294967296)) = true) (.need ((fitsB b && decide (0 < 65536) && decide (65536 < 4294967296)) = true) (.need ((fitsB c && decide (0 < 65536) && decide (65536 < 4294967296)) = true) (.need ((fitsB d && decide (0 < 65536) && decide (65536 < 4294967296)) = true) (.need ((fitsB e && decide (0 < 64) && decide (64 < 4294967296)) = true) (.need ((fitsB f && decide (0 < 64) && decide (64 < 4294967296)) = true) (.br (decide (mkRat a 65536 = mkRat a 65536)) (.br (decide (mkRat b 65536 = mkRat b 65536)) (.br (decide (mkRat c 65536 = mkRat c 65536)) (.br (decide (mkRat d 65536 = mkRat d 65536)) (.br (decide (mkRat e 64 = mkRat e 64)) (.br (decide (mkRat f 64 = mkRat f 64)) (.br (decide (mkRat 65536 65536 = mkRat 65536 65536)) (.br (decide (mkRat 0 65536 = mkRat 0 65536)) (.br (decide (mkRat 0 65536 = mkRat 0 65536)) (.br (decide (mkRat 65536 65536 = mkRat 65536 65536)) (.br (decide (mkRat 0 64 = mkRat 0 64)) (.br (decide (mkRat 0 64 = mkRat 0 64)) (.leaf yes) (.leaf no)) (.leaf no)) (.leaf no)) (.leaf no)) (.leaf no)) (.leaf no)) (.leaf no)) (.leaf no)) (.leaf no)) (.leaf no)) (.leaf no)) (.leaf no))))))))))))) := by kernel_rfl
theorem f1 : fitsB 65536 = true := by decide
theorem f2 : fitsB 64 = true := by decide
set_option maxHeartbeats 1000000 in
theorem matMakes_h (a b c d e f : Int) (ha : fitsB a = true) (hb : fitsB b = true) (hc : fitsB c = true) (hd : fitsB d = true) (he : fitsB e = true) (hf : fitsB f = true) : Out.holds (· = yes) (.need ((fitsB a && fitsB 65536 && decide (0 < 65536)) = true) (.need ((fitsB b && fitsB 65536 && decide (0 < 65536)) = true) (.need ((fitsB c && fitsB 65536 && decide (0 < 65536)) = true) (.need ((fitsB d && fitsB 65536 && decide (0 < 65536)) = true) (.need ((fitsB e && fitsB 64 && decide (0 < 64)) = true) (.need ((fitsB f && fitsB 64 && decide (0 < 64)) = true) (.need ((fitsB a && decide (0 < 65536) && decide (65536 < 4294967296)) = true) (.need ((fitsB b && decide (0 < 65536) && decide (65536 < 4294967296)) = true) (.need ((fitsB c && decide (0 < 65536) && decide (65536 < 4294967296)) = true) (.need ((fitsB d && decide (0 < 65536) && decide (65536 < 4294967296)) = true) (.need ((fitsB e && decide (0 < 64) && decide (64 < 4294967296)) = true) (.need ((fitsB f && decide (0 < 64) && decide (64 < 4294967296)) = true) (.br (decide (mkRat a 65536 = mkRat a 65536)) (.br (decide (mkRat b 65536 = mkRat b 65536)) (.br (decide (mkRat c 65536 = mkRat c 65536)) (.br (decide (mkRat d 65536 = mkRat d 65536)) (.br (decide (mkRat e 64 = mkRat e 64)) (.br (decide (mkRat f 64 = mkRat f 64)) (.br (decide (mkRat 65536 65536 = mkRat 65536 65536)) (.br (decide (mkRat 0 65536 = mkRat 0 65536)) (.br (decide (mkRat 0 65536 = mkRat 0 65536)) (.br (decide (mkRat 65536 65536 = mkRat 65536 65536)) (.br (decide (mkRat 0 64 = mkRat 0 64)) (.br (decide (mkRat 0 64 = mkRat 0 64)) (.leaf yes) (.leaf no)) (.leaf no)) (.leaf no)) (.leaf no)) (.leaf no)) (.leaf no)) (.leaf no)) (.leaf no)) (.leaf no)) (.leaf no)) (.leaf no)) (.leaf no)))))))))))))) := by
  refine ⟨?_, ⟨?_, ⟨?_, ⟨?_, ⟨?_, ⟨?_, ⟨?_, ⟨?_, ⟨?_, ⟨?_, ⟨?_, ⟨?_, ⟨fun h0 => ⟨fun h1 => ⟨fun h2 => ⟨fun h3 => ⟨fun h4 => ⟨fun h5 => ⟨fun h6 => ⟨fun h7 => ⟨fun h8 => ⟨fun h9 => ⟨fun h10 => ⟨fun _ => rfl, fun h11 => ?_⟩, fun h10 => ?_⟩, fun h9 => ?_⟩, fun h8 => ?_⟩, fun h7 => ?_⟩, fun h6 => ?_⟩, fun h5 => ?_⟩, fun h4 => ?_⟩, fun h3 => ?_⟩, fun h2 => ?_⟩, fun h1 => ?_⟩, fun h0 => ?_⟩⟩⟩⟩⟩⟩⟩⟩⟩⟩⟩⟩⟩
  · simp [ha, f1]
  · simp [hb, f1]
  · simp [hc, f1]
  · simp [hd, f1]
  · simp [he, f2]
  · simp [hf, f2]
  · simp [ha]
  · simp [hb]
  · simp [hc]
  · simp [hd]
  · simp [he]
  · simp [hf]
  · exact absurd rfl (of_decide_eq_false h11)
  · exact absurd rfl (of_decide_eq_false h10)
  · exact absurd rfl (of_decide_eq_false h9)
  · exact absurd rfl (of_decide_eq_false h8)
  · exact absurd rfl (of_decide_eq_false h7)
  · exact absurd rfl (of_decide_eq_false h6)
  · exact absurd rfl (of_decide_eq_false h5)
  · exact absurd rfl (of_decide_eq_false h4)
  · exact absurd rfl (of_decide_eq_false h3)
  · exact absurd rfl (of_decide_eq_false h2)
  · exact absurd rfl (of_decide_eq_false h1)
  · exact absurd rfl (of_decide_eq_false h0)
theorem fits_to {p : Int} (h : -9223372036854775808 ≤ p ∧ p ≤ 9223372036854775807) : fitsB p = true := by
  simp only [fitsB, Bool.and_eq_true, decide_eq_true_eq]
  omega
theorem matMakes_any {a b c d e f : Int} (W : World) (ha : fitsB a = true) (hb : fitsB b = true) (hc : fitsB c = true) (hd : fitsB d = true) (he : fitsB e = true) (hf : fitsB f = true) : Calls Tryz.prog 9 #[.agg #[.int .i64 a, .int .i64 b, .int .i64 c, .int .i64 d, .int .i64 e, .int .i64 f]] W (Makes W fun v _ => v = .bool true) :=
  law_calls (envOf_ok consW3_ok) Tryz.func9 (matMakes_t a b c d e f) (matMakes_h a b c d e f ha hb hc hd he hf)
    ⟨_, [], rfl, has_row (cs := [_, _, _, _, _, _]) ⟨[_], _, rfl, rfl, [_], _, rfl, rfl, [_], _, rfl, rfl, [_], _, rfl, rfl, [_], _, rfl, rfl, [_], [], rfl, rfl, rfl⟩ (by simp), rfl⟩
end Go.Proofs.YtafmfnpjhhaikaaGreatDoor

/-
  How a map came in.
-/
namespace Go.Proofs.YtafmfnpjhhaikaaGreatDoor
open Go.ChangeShapes Go.WideShapes Go.ChangeAt Go.WideMaps Go.WideElems Go.RowKit Go.Deep

theorem cellsMat : Tryz.prog.cellsOf 72 = 18 := by kernel_rfl
theorem matTypes : Tryz.prog.cellTypes Tryz.prog.depth 72 = some [4, 22, 22, 4, 22, 22, 4, 22, 22, 4, 22, 22, 4, 22, 22, 4, 22, 22] := by kernel_rfl
set_option maxRecDepth 100000 in
theorem mat_open {H : Type} {enc : TypeId × Value → H} {W : World} {n : Nat} {cs : List Value} {x : DataW H × List MemPlace} (h : DataW.trod enc Tryz.prog W 0 (fun _ => true) true n 72 cs = some x) :
    cs.length = 18 ∧ ∀ i, i < 6 → ∃ y m, DataW.trod enc Tryz.prog W 0 (fun _ => true) true m 26 ((cs.drop (i * 3)).take 3) = some y := by
  obtain ⟨xs, m, _, -, hl, hlen, hf⟩ := DataW.trod_struct Tryz.underlying72 h
  rw [cellsMat] at hl
  refine ⟨hl, fun i hi => ?_⟩
  match xs, hlen, i, hi with
  | [y0, y1, y2, y3, y4, y5], _, 0, _ => have h : DataW.trod enc Tryz.prog W 0 (fun _ => true) true m 26 ((cs.drop (0 * Tryz.prog.cellsOf 26)).take (Tryz.prog.cellsOf 26)) = some y0 := hf 0 _ rfl; rw [cellsRat] at h; exact ⟨y0, m, h⟩
  | [y0, y1, y2, y3, y4, y5], _, 1, _ => have h : DataW.trod enc Tryz.prog W 0 (fun _ => true) true m 26 ((cs.drop (1 * Tryz.prog.cellsOf 26)).take (Tryz.prog.cellsOf 26)) = some y1 := hf 1 _ rfl; rw [cellsRat] at h; exact ⟨y1, m, h⟩
  | [y0, y1, y2, y3, y4, y5], _, 2, _ => have h : DataW.trod enc Tryz.prog W 0 (fun _ => true) true m 26 ((cs.drop (2 * Tryz.prog.cellsOf 26)).take (Tryz.prog.cellsOf 26)) = some y2 := hf 2 _ rfl; rw [cellsRat] at h; exact ⟨y2, m, h⟩
  | [y0, y1, y2, y3, y4, y5], _, 3, _ => have h : DataW.trod enc Tryz.prog W 0 (fun _ => true) true m 26 ((cs.drop (3 * Tryz.prog.cellsOf 26)).take (Tryz.prog.cellsOf 26)) = some y3 := hf 3 _ rfl; rw [cellsRat] at h; exact ⟨y3, m, h⟩
  | [y0, y1, y2, y3, y4, y5], _, 4, _ => have h : DataW.trod enc Tryz.prog W 0 (fun _ => true) true m 26 ((cs.drop (4 * Tryz.prog.cellsOf 26)).take (Tryz.prog.cellsOf 26)) = some y4 := hf 4 _ rfl; rw [cellsRat] at h; exact ⟨y4, m, h⟩
  | [y0, y1, y2, y3, y4, y5], _, 5, _ => have h : DataW.trod enc Tryz.prog W 0 (fun _ => true) true m 26 ((cs.drop (5 * Tryz.prog.cellsOf 26)).take (Tryz.prog.cellsOf 26)) = some y5 := hf 5 _ rfl; rw [cellsRat] at h; exact ⟨y5, m, h⟩
set_option maxRecDepth 100000 in
theorem opened_mat {H : Type} {enc : TypeId × Value → H} {W : World} {r : Reach} {base : Nat} {v : Value} {d : DataW H} {p : List MemPlace} (h : DataW.Trod enc Tryz.prog W 0 (fun _ => true) true 72 v d p) (hv : Value.okWide Tryz.prog W r base 72 v) :
    ∃ x y z : Rp, v = .agg (x.row ++ y.row ++ z.row).toArray ∧ PtIn W x ∧ PtIn W y ∧ PtIn W z := by
  simp only [Value.okWide, Tryz.underlying72] at hv
  obtain ⟨cs, rfl, -, ts, hts, -, hall⟩ := hv
  rw [matTypes] at hts
  simp only [Option.some.injEq] at hts
  subst hts
  obtain ⟨n, hn⟩ := h
  obtain ⟨hl, hx⟩ := mat_open hn
  change cs.toList.length = 18 at hl
  change ∀ i, i < 6 → ∃ y m, DataW.trod enc Tryz.prog W 0 (fun _ => true) true m 26 ((cs.toList.drop (i * 3)).take 3) = some y at hx
  have hg : ∀ i, i < 6 → ∃ (s : Bool) (p : Option Addr) (k c : Nat) (q : Option Addr) (j d : Nat), (cs.toList.drop (i * 3)).take 3 = [.bool s, .slice p k c, .slice q j d] ∧ (∃ l : List Nat, l.length = k ∧ R64 W (.slice p k c) l) ∧ ∃ l : List Nat, l.length = j ∧ R64 W (.slice q j d) l := fun i hi => by
    obtain ⟨y, m, h1⟩ := hx i hi
    exact rat_open h1
  obtain ⟨s0, p0, k0, c0, q0, j0, d0, a0, b0, e0⟩ := hg 0 (by omega)
  obtain ⟨s1, p1, k1, c1, q1, j1, d1, a1, b1, e1⟩ := hg 1 (by omega)
  obtain ⟨s2, p2, k2, c2, q2, j2, d2, a2, b2, e2⟩ := hg 2 (by omega)
  obtain ⟨s3, p3, k3, c3, q3, j3, d3, a3, b3, e3⟩ := hg 3 (by omega)
  obtain ⟨s4, p4, k4, c4, q4, j4, d4, a4, b4, e4⟩ := hg 4 (by omega)
  obtain ⟨s5, p5, k5, c5, q5, j5, d5, a5, b5, e5⟩ := hg 5 (by omega)
  have hcs : cs = (Rp.row ⟨s0, p0, k0, c0, q0, j0, d0, s1, p1, k1, c1, q1, j1, d1⟩ ++ Rp.row ⟨s2, p2, k2, c2, q2, j2, d2, s3, p3, k3, c3, q3, j3, d3⟩ ++ Rp.row ⟨s4, p4, k4, c4, q4, j4, d4, s5, p5, k5, c5, q5, j5, d5⟩).toArray := by
    have : cs.toList = Rp.row ⟨s0, p0, k0, c0, q0, j0, d0, s1, p1, k1, c1, q1, j1, d1⟩ ++ Rp.row ⟨s2, p2, k2, c2, q2, j2, d2, s3, p3, k3, c3, q3, j3, d3⟩ ++ Rp.row ⟨s4, p4, k4, c4, q4, j4, d4, s5, p5, k5, c5, q5, j5, d5⟩ := by
      generalize cs.toList = L at hl a0 a1 a2 a3 a4 a5 ⊢
      match L, hl with
      | [x0, x1, x2, x3, x4, x5, x6, x7, x8, x9, x10, x11, x12, x13, x14, x15, x16, x17], _ =>
        simp only [Nat.reduceMul, List.drop_zero, List.drop_succ_cons, List.take_succ_cons, List.take_zero, List.cons.injEq, and_true] at a0 a1 a2 a3 a4 a5
        obtain ⟨rfl, rfl, rfl⟩ := a0
        obtain ⟨rfl, rfl, rfl⟩ := a1
        obtain ⟨rfl, rfl, rfl⟩ := a2
        obtain ⟨rfl, rfl, rfl⟩ := a3
        obtain ⟨rfl, rfl, rfl⟩ := a4
        obtain ⟨rfl, rfl, rfl⟩ := a5
        rfl
    rw [← this]
  clear a0 a1 a2 a3 a4 a5 hl hx hg hn
  subst hcs
  have hc : ∀ (i : Nat) (p : Option Addr) (k c : Nat), (Rp.row ⟨s0, p0, k0, c0, q0, j0, d0, s1, p1, k1, c1, q1, j1, d1⟩ ++ Rp.row ⟨s2, p2, k2, c2, q2, j2, d2, s3, p3, k3, c3, q3, j3, d3⟩ ++ Rp.row ⟨s4, p4, k4, c4, q4, j4, d4, s5, p5, k5, c5, q5, j5, d5⟩)[i]? = some (.slice p k c) → ([4, 22, 22, 4, 22, 22, 4, 22, 22, 4, 22, 22, 4, 22, 22, 4, 22, 22] : List TypeId)[i % 18]? = some 22 → PlainP p := fun i p k c hi ht => by
    obtain ⟨u', hu, hok⟩ := hall i _ (by rw [List.getElem?_toArray]; exact hi)
    simp only [List.length_cons, List.length_nil, Nat.zero_add, Nat.reduceAdd] at hu
    rw [ht] at hu
    cases hu
    exact plain_cell hok
  exact ⟨_, _, _, rfl, ⟨⟨⟨hc 1 _ _ _ rfl rfl, b0⟩, hc 2 _ _ _ rfl rfl, e0⟩, ⟨hc 4 _ _ _ rfl rfl, b1⟩, hc 5 _ _ _ rfl rfl, e1⟩, ⟨⟨⟨hc 7 _ _ _ rfl rfl, b2⟩, hc 8 _ _ _ rfl rfl, e2⟩, ⟨hc 10 _ _ _ rfl rfl, b3⟩, hc 11 _ _ _ rfl rfl, e3⟩, ⟨⟨hc 13 _ _ _ rfl rfl, b4⟩, hc 14 _ _ _ rfl rfl, e4⟩, ⟨hc 16 _ _ _ rfl rfl, b5⟩, hc 17 _ _ _ rfl rfl, e5⟩
end Go.Proofs.YtafmfnpjhhaikaaGreatDoor

/-
  The plain laws of chapter 6.
-/
namespace Go.Proofs.YtafmfnpjhhaikaaGreatDoor

section
variable (xa ya xb yb xc yc m n : Rat)
variable (xp yp xq yq : Rat)
end
end Go.Proofs.YtafmfnpjhhaikaaGreatDoor

/-
  Numbers of chapter 9.
-/
namespace Go.Proofs.YtafmfnpjhhaikaaGreatDoor
theorem k1 : mkRat 65536 65536 = 1 := by decide +kernel
theorem k2 : mkRat 0 65536 = 0 := by decide +kernel
theorem k3 : mkRat 0 64 = 0 := by decide +kernel
theorem k4 : mkRat 96 64 = 3 / 2 := by decide +kernel
theorem k5 : mkRat (-32) 64 = -1 / 2 := by decide +kernel
theorem k6 : mkRat 3 2 = 3 / 2 := by decide +kernel
theorem k7 : mkRat (-1) 2 = -1 / 2 := by decide +kernel
theorem k8 : mkRat 1 3 = 1 / 3 := by decide +kernel
theorem k9 : ((0 : Int) : Rat) = 0 := by decide +kernel
theorem k10 : ((1 : Int) : Rat) = 1 := by decide +kernel
theorem k11 : mkRat 1 1 = 1 := by decide +kernel
end Go.Proofs.YtafmfnpjhhaikaaGreatDoor

/-
  gessolaw09.MatDoes (printed by gen_md.py).
-/
namespace Go.Proofs.YtafmfnpjhhaikaaGreatDoor
open Go.RowKit Go.Shelf

theorem t_dec {p : Prop} [Decidable p] (h : p) (hb : decide p = false) : False := (of_decide_eq_false hb) h
theorem t_ndec {p : Prop} [Decidable p] (h : p) (hb : (!decide p) = true) : False := by simp [h] at hb
theorem one_one : mkRat 1 1 = 1 := by decide +kernel
theorem zero_one : mkRat 0 1 = 0 := by decide +kernel
set_option maxRecDepth 100000 in
theorem matDoes_t0 (x y z x' y' z' p : Rp) : (exFn (envOf consW3) Tryz.f8 [x.sv ++ y.sv ++ z.sv, x'.sv ++ y'.sv ++ z'.sv, p.sv]).clean = .br (![x, y, z].all (Rp.ok 6)) (.leaf yes) (.br (![x', y', z'].all (Rp.ok 6)) (.leaf yes) (.br (![p].all (Rp.ok 6)) (.leaf yes) (.fail))) := by kernel_rfl
set_option maxRecDepth 100000 in
theorem matDoes_t1 (x y z x' y' z' p : Rp) (a b c d e f a2 b2 c2 d2 e2 f2 px py : Rat) : (exFn (envOf consW3) Tryz.f8 [x.v a b 6 ++ y.v c d 6 ++ z.v e f 6, x'.v a2 b2 6 ++ y'.v c2 d2 6 ++ z'.v e2 f2 6, p.v px py 6]).clean = .br (![x, y, z].all (Rp.ok 6)) (.leaf yes) (.br (![x', y', z'].all (Rp.ok 6)) (.leaf yes) (.br (![p].all (Rp.ok 6)) (.leaf yes) (.need (x.k1 ≤ 200 ∧ x.j1 ≤ 200) (.need (x.k2 ≤ 200 ∧ x.j2 ≤ 200) (.need (y.k1 ≤ 200 ∧ y.j1 ≤ 200) (.need (y.k2 ≤ 200 ∧ y.j2 ≤ 200) (.need (z.k1 ≤ 200 ∧ z.j1 ≤ 200) (.need (z.k2 ≤ 200 ∧ z.j2 ≤ 200) (.need (x'.k1 ≤ 200 ∧ x'.j1 ≤ 200) (.need (x'.k2 ≤ 200 ∧ x'.j2 ≤ 200) (.need (y'.k1 ≤ 200 ∧ y'.j1 ≤ 200) (.need (y'.k2 ≤ 200 ∧ y'.j2 ≤ 200) (.need (z'.k1 ≤ 200 ∧ z'.j1 ≤ 200) (.need (z'.k2 ≤ 200 ∧ z'.j2 ≤ 200) (.br (decide (a * d - b * c = 0)) (.br (cmpR (a * d - b * c) 0 == 0) (.br (((0 : Nat) : Int) != 0) (.leaf no) (.br (((0 : Nat) : Int) != 0) (.leaf no) (.need (p.k1 ≤ 200 ∧ p.j1 ≤ 200) (.need (p.k2 ≤ 200 ∧ p.j2 ≤ 200) (.br (decide (a * px + c * py + e = a * px + c * py + e)) (.br (decide (b * px + d * py + f = b * px + d * py + f)) (.br (decide (a * a2 + c * b2 = a * (a2 * mkRat 1 1 + c2 * mkRat 0 1 + e2) + c * (b2 * mkRat 1 1 + d2 * mkRat 0 1 + f2) + e - (a * (a2 * mkRat 0 1 + c2 * mkRat 0 1 + e2) + c * (b2 * mkRat 0 1 + d2 * mkRat 0 1 + f2) + e))) (.br (decide (b * a2 + d * b2 = b * (a2 * mkRat 1 1 + c2 * mkRat 0 1 + e2) + d * (b2 * mkRat 1 1 + d2 * mkRat 0 1 + f2) + f - (b * (a2 * mkRat 0 1 + c2 * mkRat 0 1 + e2) + d * (b2 * mkRat 0 1 + d2 * mkRat 0 1 + f2) + f))) (.br (decide (a * c2 + c * d2 = a * (a2 * mkRat 0 1 + c2 * mkRat 1 1 + e2) + c * (b2 * mkRat 0 1 + d2 * mkRat 1 1 + f2) + e - (a * (a2 * mkRat 0 1 + c2 * mkRat 0 1 + e2) + c * (b2 * mkRat 0 1 + d2 * mkRat 0 1 + f2) + e))) (.br (decide (b * c2 + d * d2 = b * (a2 * mkRat 0 1 + c2 * mkRat 1 1 + e2) + d * (b2 * mkRat 0 1 + d2 * mkRat 1 1 + f2) + f - (b * (a2 * mkRat 0 1 + c2 * mkRat 0 1 + e2) + d * (b2 * mkRat 0 1 + d2 * mkRat 0 1 + f2) + f))) (.br (decide (a * e2 + c * f2 + e = a * (a2 * mkRat 0 1 + c2 * mkRat 0 1 + e2) + c * (b2 * mkRat 0 1 + d2 * mkRat 0 1 + f2) + e)) (.br (decide (b * e2 + d * f2 + f = b * (a2 * mkRat 0 1 + c2 * mkRat 0 1 + e2) + d * (b2 * mkRat 0 1 + d2 * mkRat 0 1 + f2) + f)) (.br (decide (a * d - b * c = a * d - b * c)) (.br (decide (a = a2)) (.br (decide (b = b2)) (.br (decide (c = c2)) (.br (decide (d = d2)) (.br (decide (e = e2)) (.br (decide (a = a2 ∧ b = b2 ∧ c = c2 ∧ d = d2 ∧ e = e2 ∧ f = f2) == decide (f = f2)) (.leaf yes) (.leaf no)) (.br (decide (a = a2 ∧ b = b2 ∧ c = c2 ∧ d = d2 ∧ e = e2 ∧ f = f2) == false) (.leaf yes) (.leaf no))) (.br (decide (a = a2 ∧ b = b2 ∧ c = c2 ∧ d = d2 ∧ e = e2 ∧ f = f2) == false) (.leaf yes) (.leaf no))) (.br (decide (a = a2 ∧ b = b2 ∧ c = c2 ∧ d = d2 ∧ e = e2 ∧ f = f2) == false) (.leaf yes) (.leaf no))) (.br (decide (a = a2 ∧ b = b2 ∧ c = c2 ∧ d = d2 ∧ e = e2 ∧ f = f2) == false) (.leaf yes) (.leaf no))) (.br (decide (a = a2 ∧ b = b2 ∧ c = c2 ∧ d = d2 ∧ e = e2 ∧ f = f2) == false) (.leaf yes) (.leaf no))) (.leaf no)) (.leaf no)) (.leaf no)) (.leaf no)) (.leaf no)) (.leaf no)) (.leaf no)) (.leaf no)) (.leaf no)))))) (.leaf no)) (.br (cmpR (a * d - b * c) 0 == 0) (.leaf no) (.need (a * d - b * c ≠ 0) (.need (a * d - b * c ≠ 0) (.need (a * d - b * c ≠ 0) (.need (a * d - b * c ≠ 0) (.br (decide (d * (mkRat 1 1 / (a * d - b * c)) = d / (a * d - b * c))) (.br (decide (-b * (mkRat 1 1 / (a * d - b * c)) = -b / (a * d - b * c))) (.br (decide (-c * (mkRat 1 1 / (a * d - b * c)) = -c / (a * d - b * c))) (.br (decide (a * (mkRat 1 1 / (a * d - b * c)) = a / (a * d - b * c))) (.br (decide (-(d * (mkRat 1 1 / (a * d - b * c)) * e + -c * (mkRat 1 1 / (a * d - b * c)) * f) = -(d / (a * d - b * c) * e + -c / (a * d - b * c) * f + mkRat 0 1))) (.br (!decide (-(-b * (mkRat 1 1 / (a * d - b * c)) * e + a * (mkRat 1 1 / (a * d - b * c)) * f) = -(-b / (a * d - b * c) * e + a / (a * d - b * c) * f + mkRat 0 1))) (.leaf no) (.need (p.k1 ≤ 200 ∧ p.j1 ≤ 200) (.need (p.k2 ≤ 200 ∧ p.j2 ≤ 200) (.br (decide (a * px + c * py + e = a * px + c * py + e)) (.br (decide (b * px + d * py + f = b * px + d * py + f)) (.br (decide (a * a2 + c * b2 = a * (a2 * mkRat 1 1 + c2 * mkRat 0 1 + e2) + c * (b2 * mkRat 1 1 + d2 * mkRat 0 1 + f2) + e - (a * (a2 * mkRat 0 1 + c2 * mkRat 0 1 + e2) + c * (b2 * mkRat 0 1 + d2 * mkRat 0 1 + f2) + e))) (.br (decide (b * a2 + d * b2 = b * (a2 * mkRat 1 1 + c2 * mkRat 0 1 + e2) + d * (b2 * mkRat 1 1 + d2 * mkRat 0 1 + f2) + f - (b * (a2 * mkRat 0 1 + c2 * mkRat 0 1 + e2) + d * (b2 * mkRat 0 1 + d2 * mkRat 0 1 + f2) + f))) (.br (decide (a * c2 + c * d2 = a * (a2 * mkRat 0 1 + c2 * mkRat 1 1 + e2) + c * (b2 * mkRat 0 1 + d2 * mkRat 1 1 + f2) + e - (a * (a2 * mkRat 0 1 + c2 * mkRat 0 1 + e2) + c * (b2 * mkRat 0 1 + d2 * mkRat 0 1 + f2) + e))) (.br (decide (b * c2 + d * d2 = b * (a2 * mkRat 0 1 + c2 * mkRat 1 1 + e2) + d * (b2 * mkRat 0 1 + d2 * mkRat 1 1 + f2) + f - (b * (a2 * mkRat 0 1 + c2 * mkRat 0 1 + e2) + d * (b2 * mkRat 0 1 + d2 * mkRat 0 1 + f2) + f))) (.br (decide (a * e2 + c * f2 + e = a * (a2 * mkRat 0 1 + c2 * mkRat 0 1 + e2) + c * (b2 * mkRat 0 1 + d2 * mkRat 0 1 + f2) + e)) (.br (decide (b * e2 + d * f2 + f = b * (a2 * mkRat 0 1 + c2 * mkRat 0 1 + e2) + d * (b2 * mkRat 0 1 + d2 * mkRat 0 1 + f2) + f)) (.br (decide (a * d - b * c = a * d - b * c)) (.br (decide (a = a2)) (.br (decide (b = b2)) (.br (decide (c = c2)) (.br (decide (d = d2)) (.br (decide (e = e2)) (.br (decide (a = a2 ∧ b = b2 ∧ c = c2 ∧ d = d2 ∧ e = e2 ∧ f = f2) == decide (f = f2)) (.leaf yes) (.leaf no)) (.br (decide (a = a2 ∧ b = b2 ∧ c = c2 ∧ d = d2 ∧ e = e2 ∧ f = f2) == false) (.leaf yes) (.leaf no))) (.br (decide (a = a2 ∧ b = b2 ∧ c = c2 ∧ d = d2 ∧ e = e2 ∧ f = f2) == false) (.leaf yes) (.leaf no))) (.br (decide (a = a2 ∧ b = b2 ∧ c = c2 ∧ d = d2 ∧ e = e2 ∧ f = f2) == false) (.leaf yes) (.leaf no))) (.br (decide (a = a2 ∧ b = b2 ∧ c = c2 ∧ d = d2 ∧ e = e2 ∧ f = f2) == false) (.leaf yes) (.leaf no))) (.br (decide (a = a2 ∧ b = b2 ∧ c = c2 ∧ d = d2 ∧ e = e2 ∧ f = f2) == false) (.leaf yes) (.leaf no))) (.leaf no)) (.leaf no)) (.leaf no)) (.leaf no)) (.leaf no)) (.leaf no)) (.leaf no)) (.leaf no)) (.leaf no))))) (.leaf no)) (.leaf no)) (.leaf no)) (.leaf no)) (.leaf no)))))))))))))))))))))) := by kernel_rfl
set_option maxHeartbeats 4000000 in
theorem matDoes_h1 (x y z x' y' z' p : Rp) (a b c d e f a2 b2 c2 d2 e2 f2 px py : Rat) : Out.holds (· = yes) (.br (![x, y, z].all (Rp.ok 6)) (.leaf yes) (.br (![x', y', z'].all (Rp.ok 6)) (.leaf yes) (.br (![p].all (Rp.ok 6)) (.leaf yes) (.need (x.k1 ≤ 200 ∧ x.j1 ≤ 200) (.need (x.k2 ≤ 200 ∧ x.j2 ≤ 200) (.need (y.k1 ≤ 200 ∧ y.j1 ≤ 200) (.need (y.k2 ≤ 200 ∧ y.j2 ≤ 200) (.need (z.k1 ≤ 200 ∧ z.j1 ≤ 200) (.need (z.k2 ≤ 200 ∧ z.j2 ≤ 200) (.need (x'.k1 ≤ 200 ∧ x'.j1 ≤ 200) (.need (x'.k2 ≤ 200 ∧ x'.j2 ≤ 200) (.need (y'.k1 ≤ 200 ∧ y'.j1 ≤ 200) (.need (y'.k2 ≤ 200 ∧ y'.j2 ≤ 200) (.need (z'.k1 ≤ 200 ∧ z'.j1 ≤ 200) (.need (z'.k2 ≤ 200 ∧ z'.j2 ≤ 200) (.br (decide (a * d - b * c = 0)) (.br (cmpR (a * d - b * c) 0 == 0) (.br (((0 : Nat) : Int) != 0) (.leaf no) (.br (((0 : Nat) : Int) != 0) (.leaf no) (.need (p.k1 ≤ 200 ∧ p.j1 ≤ 200) (.need (p.k2 ≤ 200 ∧ p.j2 ≤ 200) (.br (decide (a * px + c * py + e = a * px + c * py + e)) (.br (decide (b * px + d * py + f = b * px + d * py + f)) (.br (decide (a * a2 + c * b2 = a * (a2 * mkRat 1 1 + c2 * mkRat 0 1 + e2) + c * (b2 * mkRat 1 1 + d2 * mkRat 0 1 + f2) + e - (a * (a2 * mkRat 0 1 + c2 * mkRat 0 1 + e2) + c * (b2 * mkRat 0 1 + d2 * mkRat 0 1 + f2) + e))) (.br (decide (b * a2 + d * b2 = b * (a2 * mkRat 1 1 + c2 * mkRat 0 1 + e2) + d * (b2 * mkRat 1 1 + d2 * mkRat 0 1 + f2) + f - (b * (a2 * mkRat 0 1 + c2 * mkRat 0 1 + e2) + d * (b2 * mkRat 0 1 + d2 * mkRat 0 1 + f2) + f))) (.br (decide (a * c2 + c * d2 = a * (a2 * mkRat 0 1 + c2 * mkRat 1 1 + e2) + c * (b2 * mkRat 0 1 + d2 * mkRat 1 1 + f2) + e - (a * (a2 * mkRat 0 1 + c2 * mkRat 0 1 + e2) + c * (b2 * mkRat 0 1 + d2 * mkRat 0 1 + f2) + e))) (.br (decide (b * c2 + d * d2 = b * (a2 * mkRat 0 1 + c2 * mkRat 1 1 + e2) + d * (b2 * mkRat 0 1 + d2 * mkRat 1 1 + f2) + f - (b * (a2 * mkRat 0 1 + c2 * mkRat 0 1 + e2) + d * (b2 * mkRat 0 1 + d2 * mkRat 0 1 + f2) + f))) (.br (decide (a * e2 + c * f2 + e = a * (a2 * mkRat 0 1 + c2 * mkRat 0 1 + e2) + c * (b2 * mkRat 0 1 + d2 * mkRat 0 1 + f2) + e)) (.br (decide (b * e2 + d * f2 + f = b * (a2 * mkRat 0 1 + c2 * mkRat 0 1 + e2) + d * (b2 * mkRat 0 1 + d2 * mkRat 0 1 + f2) + f)) (.br (decide (a * d - b * c = a * d - b * c)) (.br (decide (a = a2)) (.br (decide (b = b2)) (.br (decide (c = c2)) (.br (decide (d = d2)) (.br (decide (e = e2)) (.br (decide (a = a2 ∧ b = b2 ∧ c = c2 ∧ d = d2 ∧ e = e2 ∧ f = f2) == decide (f = f2)) (.leaf yes) (.leaf no)) (.br (decide (a = a2 ∧ b = b2 ∧ c = c2 ∧ d = d2 ∧ e = e2 ∧ f = f2) == false) (.leaf yes) (.leaf no))) (.br (decide (a = a2 ∧ b = b2 ∧ c = c2 ∧ d = d2 ∧ e = e2 ∧ f = f2) == false) (.leaf yes) (.leaf no))) (.br (decide (a = a2 ∧ b = b2 ∧ c = c2 ∧ d = d2 ∧ e = e2 ∧ f = f2) == false) (.leaf yes) (.leaf no))) (.br (decide (a = a2 ∧ b = b2 ∧ c = c2 ∧ d = d2 ∧ e = e2 ∧ f = f2) == false) (.leaf yes) (.leaf no))) (.br (decide (a = a2 ∧ b = b2 ∧ c = c2 ∧ d = d2 ∧ e = e2 ∧ f = f2) == false) (.leaf yes) (.leaf no))) (.leaf no)) (.leaf no)) (.leaf no)) (.leaf no)) (.leaf no)) (.leaf no)) (.leaf no)) (.leaf no)) (.leaf no)))))) (.leaf no)) (.br (cmpR (a * d - b * c) 0 == 0) (.leaf no) (.need (a * d - b * c ≠ 0) (.need (a * d - b * c ≠ 0) (.need (a * d - b * c ≠ 0) (.need (a * d - b * c ≠ 0) (.br (decide (d * (mkRat 1 1 / (a * d - b * c)) = d / (a * d - b * c))) (.br (decide (-b * (mkRat 1 1 / (a * d - b * c)) = -b / (a * d - b * c))) (.br (decide (-c * (mkRat 1 1 / (a * d - b * c)) = -c / (a * d - b * c))) (.br (decide (a * (mkRat 1 1 / (a * d - b * c)) = a / (a * d - b * c))) (.br (decide (-(d * (mkRat 1 1 / (a * d - b * c)) * e + -c * (mkRat 1 1 / (a * d - b * c)) * f) = -(d / (a * d - b * c) * e + -c / (a * d - b * c) * f + mkRat 0 1))) (.br (!decide (-(-b * (mkRat 1 1 / (a * d - b * c)) * e + a * (mkRat 1 1 / (a * d - b * c)) * f) = -(-b / (a * d - b * c) * e + a / (a * d - b * c) * f + mkRat 0 1))) (.leaf no) (.need (p.k1 ≤ 200 ∧ p.j1 ≤ 200) (.need (p.k2 ≤ 200 ∧ p.j2 ≤ 200) (.br (decide (a * px + c * py + e = a * px + c * py + e)) (.br (decide (b * px + d * py + f = b * px + d * py + f)) (.br (decide (a * a2 + c * b2 = a * (a2 * mkRat 1 1 + c2 * mkRat 0 1 + e2) + c * (b2 * mkRat 1 1 + d2 * mkRat 0 1 + f2) + e - (a * (a2 * mkRat 0 1 + c2 * mkRat 0 1 + e2) + c * (b2 * mkRat 0 1 + d2 * mkRat 0 1 + f2) + e))) (.br (decide (b * a2 + d * b2 = b * (a2 * mkRat 1 1 + c2 * mkRat 0 1 + e2) + d * (b2 * mkRat 1 1 + d2 * mkRat 0 1 + f2) + f - (b * (a2 * mkRat 0 1 + c2 * mkRat 0 1 + e2) + d * (b2 * mkRat 0 1 + d2 * mkRat 0 1 + f2) + f))) (.br (decide (a * c2 + c * d2 = a * (a2 * mkRat 0 1 + c2 * mkRat 1 1 + e2) + c * (b2 * mkRat 0 1 + d2 * mkRat 1 1 + f2) + e - (a * (a2 * mkRat 0 1 + c2 * mkRat 0 1 + e2) + c * (b2 * mkRat 0 1 + d2 * mkRat 0 1 + f2) + e))) (.br (decide (b * c2 + d * d2 = b * (a2 * mkRat 0 1 + c2 * mkRat 1 1 + e2) + d * (b2 * mkRat 0 1 + d2 * mkRat 1 1 + f2) + f - (b * (a2 * mkRat 0 1 + c2 * mkRat 0 1 + e2) + d * (b2 * mkRat 0 1 + d2 * mkRat 0 1 + f2) + f))) (.br (decide (a * e2 + c * f2 + e = a * (a2 * mkRat 0 1 + c2 * mkRat 0 1 + e2) + c * (b2 * mkRat 0 1 + d2 * mkRat 0 1 + f2) + e)) (.br (decide (b * e2 + d * f2 + f = b * (a2 * mkRat 0 1 + c2 * mkRat 0 1 + e2) + d * (b2 * mkRat 0 1 + d2 * mkRat 0 1 + f2) + f)) (.br (decide (a * d - b * c = a * d - b * c)) (.br (decide (a = a2)) (.br (decide (b = b2)) (.br (decide (c = c2)) (.br (decide (d = d2)) (.br (decide (e = e2)) (.br (decide (a = a2 ∧ b = b2 ∧ c = c2 ∧ d = d2 ∧ e = e2 ∧ f = f2) == decide (f = f2)) (.leaf yes) (.leaf no)) (.br (decide (a = a2 ∧ b = b2 ∧ c = c2 ∧ d = d2 ∧ e = e2 ∧ f = f2) == false) (.leaf yes) (.leaf no))) (.br (decide (a = a2 ∧ b = b2 ∧ c = c2 ∧ d = d2 ∧ e = e2 ∧ f = f2) == false) (.leaf yes) (.leaf no))) (.br (decide (a = a2 ∧ b = b2 ∧ c = c2 ∧ d = d2 ∧ e = e2 ∧ f = f2) == false) (.leaf yes) (.leaf no))) (.br (decide (a = a2 ∧ b = b2 ∧ c = c2 ∧ d = d2 ∧ e = e2 ∧ f = f2) == false) (.leaf yes) (.leaf no))) (.br (decide (a = a2 ∧ b = b2 ∧ c = c2 ∧ d = d2 ∧ e = e2 ∧ f = f2) == false) (.leaf yes) (.leaf no))) (.leaf no)) (.leaf no)) (.leaf no)) (.leaf no)) (.leaf no)) (.leaf no)) (.leaf no)) (.leaf no)) (.leaf no))))) (.leaf no)) (.leaf no)) (.leaf no)) (.leaf no)) (.leaf no))))))))))))))))))))))) := by
  refine ⟨fun _ => rfl, fun h0 => ⟨fun _ => rfl, fun h1 => ⟨fun _ => rfl, fun h2 => ⟨?_, ⟨?_, ⟨?_, ⟨?_, ⟨?_, ⟨?_, ⟨?_, ⟨?_, ⟨?_, ⟨?_, ⟨?_, ⟨?_, ⟨fun h3 => ⟨fun h4 => ⟨fun h5 => ?_, fun h5 => ⟨fun h6 => ?_, fun h6 => ⟨?_, ⟨?_, ⟨fun h7 => ⟨fun h8 => ⟨fun h9 => ⟨fun h10 => ⟨fun h11 => ⟨fun h12 => ⟨fun h13 => ⟨fun h14 => ⟨fun h15 => ⟨fun h16 => ⟨fun h17 => ⟨fun h18 => ⟨fun h19 => ⟨fun h20 => ⟨fun _ => rfl, fun h21 => ?_⟩, fun h20 => ⟨fun _ => rfl, fun h21 => ?_⟩⟩, fun h19 => ⟨fun _ => rfl, fun h20 => ?_⟩⟩, fun h18 => ⟨fun _ => rfl, fun h19 => ?_⟩⟩, fun h17 => ⟨fun _ => rfl, fun h18 => ?_⟩⟩, fun h16 => ⟨fun _ => rfl, fun h17 => ?_⟩⟩, fun h15 => ?_⟩, fun h14 => ?_⟩, fun h13 => ?_⟩, fun h12 => ?_⟩, fun h11 => ?_⟩, fun h10 => ?_⟩, fun h9 => ?_⟩, fun h8 => ?_⟩, fun h7 => ?_⟩⟩⟩⟩⟩, fun h4 => ?_⟩, fun h3 => ⟨fun h4 => ?_, fun h4 => ⟨?_, ⟨?_, ⟨?_, ⟨?_, ⟨fun h5 => ⟨fun h6 => ⟨fun h7 => ⟨fun h8 => ⟨fun h9 => ⟨fun h10 => ?_, fun h10 => ⟨?_, ⟨?_, ⟨fun h11 => ⟨fun h12 => ⟨fun h13 => ⟨fun h14 => ⟨fun h15 => ⟨fun h16 => ⟨fun h17 => ⟨fun h18 => ⟨fun h19 => ⟨fun h20 => ⟨fun h21 => ⟨fun h22 => ⟨fun h23 => ⟨fun h24 => ⟨fun _ => rfl, fun h25 => ?_⟩, fun h24 => ⟨fun _ => rfl, fun h25 => ?_⟩⟩, fun h23 => ⟨fun _ => rfl, fun h24 => ?_⟩⟩, fun h22 => ⟨fun _ => rfl, fun h23 => ?_⟩⟩, fun h21 => ⟨fun _ => rfl, fun h22 => ?_⟩⟩, fun h20 => ⟨fun _ => rfl, fun h21 => ?_⟩⟩, fun h19 => ?_⟩, fun h18 => ?_⟩, fun h17 => ?_⟩, fun h16 => ?_⟩, fun h15 => ?_⟩, fun h14 => ?_⟩, fun h13 => ?_⟩, fun h12 => ?_⟩, fun h11 => ?_⟩⟩⟩⟩, fun h9 => ?_⟩, fun h8 => ?_⟩, fun h7 => ?_⟩, fun h6 => ?_⟩, fun h5 => ?_⟩⟩⟩⟩⟩⟩⟩⟩⟩⟩⟩⟩⟩⟩⟩⟩⟩⟩⟩⟩⟩⟩
  · simp [Rp.ok] at h0; omega
  · simp [Rp.ok] at h0; omega
  · simp [Rp.ok] at h0; omega
  · simp [Rp.ok] at h0; omega
  · simp [Rp.ok] at h0; omega
  · simp [Rp.ok] at h0; omega
  · simp [Rp.ok] at h1; omega
  · simp [Rp.ok] at h1; omega
  · simp [Rp.ok] at h1; omega
  · simp [Rp.ok] at h1; omega
  · simp [Rp.ok] at h1; omega
  · simp [Rp.ok] at h1; omega
  · exact absurd h5 (by decide)
  · exact absurd h6 (by decide)
  · simp [Rp.ok] at h2; omega
  · simp [Rp.ok] at h2; omega
  · simp_all
  · simp_all
  · simp_all
  · simp_all
  · simp_all
  · simp_all
  · exact absurd rfl (of_decide_eq_false h15)
  · refine (t_dec ?_ h14).elim; simp only [zero_one]; grind
  · refine (t_dec ?_ h13).elim; simp only [zero_one]; grind
  · refine (t_dec ?_ h12).elim; simp only [one_one, zero_one]; grind
  · refine (t_dec ?_ h11).elim; simp only [one_one, zero_one]; grind
  · refine (t_dec ?_ h10).elim; simp only [one_one, zero_one]; grind
  · refine (t_dec ?_ h9).elim; simp only [one_one, zero_one]; grind
  · exact absurd rfl (of_decide_eq_false h8)
  · exact absurd rfl (of_decide_eq_false h7)
  · rw [cmp_dec, h3] at h4; cases h4
  · rw [cmp_dec, h3] at h4; cases h4
  · exact of_decide_eq_false h3
  · exact of_decide_eq_false h3
  · exact of_decide_eq_false h3
  · exact of_decide_eq_false h3
  · refine (t_ndec ?_ h10).elim; simp only [Rat.div_def, one_one, zero_one]; generalize (a * d - b * c)⁻¹ = K; grind
  · simp [Rp.ok] at h2; omega
  · simp [Rp.ok] at h2; omega
  · simp_all
  · simp_all
  · simp_all
  · simp_all
  · simp_all
  · simp_all
  · exact absurd rfl (of_decide_eq_false h19)
  · refine (t_dec ?_ h18).elim; simp only [zero_one]; grind
  · refine (t_dec ?_ h17).elim; simp only [zero_one]; grind
  · refine (t_dec ?_ h16).elim; simp only [one_one, zero_one]; grind
  · refine (t_dec ?_ h15).elim; simp only [one_one, zero_one]; grind
  · refine (t_dec ?_ h14).elim; simp only [one_one, zero_one]; grind
  · refine (t_dec ?_ h13).elim; simp only [one_one, zero_one]; grind
  · exact absurd rfl (of_decide_eq_false h12)
  · exact absurd rfl (of_decide_eq_false h11)
  · refine (t_dec ?_ h9).elim; simp only [Rat.div_def, one_one, zero_one]; generalize (a * d - b * c)⁻¹ = K; grind
  · refine (t_dec ?_ h8).elim; simp only [Rat.div_def, one_one]; generalize (a * d - b * c)⁻¹ = K; grind
  · refine (t_dec ?_ h7).elim; simp only [Rat.div_def, one_one]; generalize (a * d - b * c)⁻¹ = K; grind
  · refine (t_dec ?_ h6).elim; simp only [Rat.div_def, one_one]; generalize (a * d - b * c)⁻¹ = K; grind
  · refine (t_dec ?_ h5).elim; simp only [Rat.div_def, one_one]; generalize (a * d - b * c)⁻¹ = K; grind
theorem matDoes_any (x y z x' y' z' p : Rp) (W : World) (hx : PtIn W x) (hy : PtIn W y) (hz : PtIn W z) (hx' : PtIn W x') (hy' : PtIn W y') (hz' : PtIn W z') (hp : PtIn W p) :
    Calls Tryz.prog 8 #[.agg (x.row ++ y.row ++ z.row).toArray, .agg (x'.row ++ y'.row ++ z'.row).toArray, .agg p.row.toArray] W (Makes W fun v _ => v = .bool true) := by
  have hl : ∀ (x y z : Rp), (x.row ++ y.row ++ z.row).length ≠ 1 := fun x y z => by simp [Rp.row]
  have hl1 : ∀ (x : Rp), x.row.length ≠ 1 := fun x => by simp [Rp.row]
  by_cases hf : [x, y, z].all (Rp.ok 6) = true ∧ [x', y', z'].all (Rp.ok 6) = true ∧ [p].all (Rp.ok 6) = true
  · obtain ⟨h1, h2, h3⟩ := hf
    simp only [List.all_cons, List.all_nil, Bool.and_eq_true, Bool.and_true] at h1 h2 h3
    obtain ⟨a, b, k1⟩ := hx.ps h1.1
    obtain ⟨c, d, k2⟩ := hy.ps h1.2.1
    obtain ⟨e, f, k3⟩ := hz.ps h1.2.2
    obtain ⟨a2, b2, k4⟩ := hx'.ps h2.1
    obtain ⟨c2, d2, k5⟩ := hy'.ps h2.2.1
    obtain ⟨e2, f2, k6⟩ := hz'.ps h2.2.2
    obtain ⟨px, py, k7⟩ := hp.ps h3
    exact law_calls (envOf_ok consW3_ok) Tryz.func8 (matDoes_t1 x y z x' y' z' p a b c d e f a2 b2 c2 d2 e2 f2 px py) (matDoes_h1 ..)
      ⟨_, _, rfl, has_row (rel3 (Rp.v_rel k1) (Rp.v_rel k2) (Rp.v_rel k3)) (hl _ _ _), _, _, rfl, has_row (rel3 (Rp.v_rel k4) (Rp.v_rel k5) (Rp.v_rel k6)) (hl _ _ _), _, _, rfl, has_row (Rp.v_rel k7) (hl1 _), rfl⟩
  · refine law_calls (envOf_ok consW3_ok) Tryz.func8 (matDoes_t0 x y z x' y' z' p) ?_
      ⟨_, _, rfl, has_row (rel3 x.sv_rel y.sv_rel z.sv_rel) (hl _ _ _), _, _, rfl, has_row (rel3 x'.sv_rel y'.sv_rel z'.sv_rel) (hl _ _ _), _, _, rfl, has_row p.sv_rel (hl1 _), rfl⟩
    exact ⟨fun _ => rfl, fun h1 => ⟨fun _ => rfl, fun h2 => ⟨fun _ => rfl, fun h3 => hf ⟨by simpa using h1, by simpa using h2, by simpa using h3⟩⟩⟩⟩
end Go.Proofs.YtafmfnpjhhaikaaGreatDoor
