/-
  Maps in the evaluator.
-/
import Derived.Test.YtafmfnpjhhaikaaGreatDoorZax
import Derived.Test.YtafmfnpjhhaikaaGreatDoorZay
import Derived.Test.YtafmfnpjhhaikaaGreatDoorZan
import Derived.Test.YtafmfnpjhhaikaaGreatDoorZat
namespace Go.Proofs.YtafmfnpjhhaikaaGreatDoor
open Go.RowKit Go.Shelf

def cMsame : Con
  | [x, y] => match asRats 6 x, asRats 6 y with
    | some [(a, a'), (b, b'), (c, c'), (d, d'), (e, e'), (f, f')], some [(g, g'), (h, h'), (i, i'), (j, j'), (k, k'), (l, l')] => .chk ((4 * ((a' + b' + c' + d' + e' + f') + (g' + h' + i' + j' + k' + l')) + 4).blt LimK) (.leaf (.one [.sym (.bool (decide (a = g ∧ b = h ∧ c = i ∧ d = j ∧ e = k ∧ f = l)))]))
    | _, _ => .fail
  | _ => .fail
theorem ok_msame : OkCon Tryz.prog 64 cMsame := ⟨fun vs w => Go.MuLone.run_callFunc_enter Tryz.func64 rfl rfl vs w, fun args t hg C w vs _ ha => by
  unfold cMsame at hg
  split at hg
  · split at hg
    · rename_i a a' b b' c c' d d' e e' f f' g g' h h' i i' j j' k k' l l' hx hy
      obtain ⟨hl, rfl⟩ := hg
      have hl := Nat.ble_eq.mp hl
      obtain ⟨u, v, rfl, h1, h2⟩ := all2 ha
      exact (au_msame (asMat_has h1 hx (by dsimp only; omega)) (asMat_has h2 hy (by dsimp only; omega)) (by dsimp only; omega)).mono fun _ _ h => h.imp fun _ h => by subst h; exact one_of rfl
    · exact hg.elim
  · exact hg.elim⟩
noncomputable def cons7 := fnsOf cons6 [(112, Tryz.f112), (108, Tryz.f108), (109, Tryz.f109), (102, Tryz.f102), (100, Tryz.f100)]
theorem cons7_ok : AllCon Tryz.prog cons7 := fns_ok cons6_ok ⟨⟨Tryz.func112, rfl, rfl⟩, ⟨Tryz.func108, rfl, rfl⟩, ⟨Tryz.func109, rfl, rfl⟩, ⟨Tryz.func102, rfl, rfl⟩, ⟨Tryz.func100, rfl, rfl⟩, trivial⟩
noncomputable def cons8 := fnsOf cons7 [(67, Tryz.f67), (63, Tryz.f63), (101, Tryz.f101)]
theorem cons8_ok : AllCon Tryz.prog cons8 := fns_ok cons7_ok ⟨⟨Tryz.func67, rfl, rfl⟩, ⟨Tryz.func63, rfl, rfl⟩, ⟨Tryz.func101, rfl, rfl⟩, trivial⟩
noncomputable def cons9 := fnsOf cons8 [(59, Tryz.f59), (54, Tryz.f54), (69, Tryz.f69), (51, Tryz.f51)]
theorem cons9_ok : AllCon Tryz.prog cons9 := fns_ok cons8_ok ⟨⟨Tryz.func59, rfl, rfl⟩, ⟨Tryz.func54, rfl, rfl⟩, ⟨Tryz.func69, rfl, rfl⟩, ⟨Tryz.func51, rfl, rfl⟩, trivial⟩
noncomputable def cons10 := (64, cMsame) :: fnsOf cons9 [(61, Tryz.f61)]
theorem cons10_ok : AllCon Tryz.prog cons10 := ⟨ok_msame, fns_ok cons9_ok ⟨⟨Tryz.func61, rfl, rfl⟩, trivial⟩⟩
theorem ok_wakes09 : OkCon Tryz.prog 52 cTrue := ok_wakes cons10_ok Tryz.func52 rfl rfl (.inr (by kernel_rfl))
noncomputable def cons11 := (52, cTrue) :: cons10
theorem cons11_ok : AllCon Tryz.prog cons11 := ⟨ok_wakes09, cons10_ok⟩
end Go.Proofs.YtafmfnpjhhaikaaGreatDoor

/-
  The plain laws of chapter 6.
-/
namespace Go.Proofs.YtafmfnpjhhaikaaGreatDoor

section
variable (xa ya xb yb xc yc m n : Rat)
variable (xp yp xq yq : Rat)
end
end Go.Proofs.YtafmfnpjhhaikaaGreatDoor

/-
  Numbers of chapter 9.
-/
namespace Go.Proofs.YtafmfnpjhhaikaaGreatDoor
theorem k1 : mkRat 65536 65536 = 1 := by decide +kernel
theorem k2 : mkRat 0 65536 = 0 := by decide +kernel
theorem k3 : mkRat 0 64 = 0 := by decide +kernel
theorem k4 : mkRat 96 64 = 3 / 2 := by decide +kernel
theorem k5 : mkRat (-32) 64 = -1 / 2 := by decide +kernel
theorem k6 : mkRat 3 2 = 3 / 2 := by decide +kernel
theorem k7 : mkRat (-1) 2 = -1 / 2 := by decide +kernel
theorem k8 : mkRat 1 3 = 1 / 3 := by decide +kernel
theorem k9 : ((0 : Int) : Rat) = 0 := by decide +kernel
theorem k10 : ((1 : Int) : Rat) = 1 := by decide +kernel
theorem k11 : mkRat 1 1 = 1 := by decide +kernel
end Go.Proofs.YtafmfnpjhhaikaaGreatDoor

/-
  gessolaw09.MatLaws (printed by gen_le.py).
-/
namespace Go.Proofs.YtafmfnpjhhaikaaGreatDoor
open Go.RowKit Go.Shelf

theorem t_dec {p : Prop} [Decidable p] (h : p) (hb : decide p = false) : False := (of_decide_eq_false hb) h
theorem t_ndec {p : Prop} [Decidable p] (h : p) (hb : (!decide p) = true) : False := by simp [h] at hb
theorem t_cmp {x y : Rat} (h : x = y) (hb : (cmpR x y == 0) = false) : False := by
  rw [cmpR_eq.2 h] at hb
  cases hb
theorem k_fact {D : Rat} (h : decide (D = 0) = false) : 1 / D * D = 1 := Rat.div_mul_cancel (of_decide_eq_false h)
set_option maxRecDepth 100000 in
theorem matLaws_t0 (x y z x' y' z' p q r : Rp) : (exFn (envOf cons11) Tryz.f11 [x.sv ++ y.sv ++ z.sv, x'.sv ++ y'.sv ++ z'.sv, p.sv ++ q.sv ++ r.sv]).clean = .br (![x, y, z].all (Rp.ok 6)) (.leaf yes) (.br (![x', y', z'].all (Rp.ok 6)) (.leaf yes) (.br (![p, q, r].all (Rp.ok 6)) (.leaf yes) (.fail))) := by kernel_rfl
set_option maxRecDepth 100000 in
theorem matLaws_t1 (x y z x' y' z' p q r : Rp) (a b c d e f a2 b2 c2 d2 e2 f2 px py qx qy rx ry : Rat) : (exFn (envOf cons11) Tryz.f11 [x.v a b 6 ++ y.v c d 6 ++ z.v e f 6, x'.v a2 b2 6 ++ y'.v c2 d2 6 ++ z'.v e2 f2 6, p.v px py 6 ++ q.v qx qy 6 ++ r.v rx ry 6]).clean = .br (![x, y, z].all (Rp.ok 6)) (.leaf yes) (.br (![x', y', z'].all (Rp.ok 6)) (.leaf yes) (.br (![p, q, r].all (Rp.ok 6)) (.leaf yes) (.br (!decide ((a * a2 + c * b2) * px + (a * c2 + c * d2) * py + (a * e2 + c * f2 + e) = a * (a2 * px + c2 * py + e2) + c * (b2 * px + d2 * py + f2) + e ∧ (b * a2 + d * b2) * px + (b * c2 + d * d2) * py + (b * e2 + d * f2 + f) = b * (a2 * px + c2 * py + e2) + d * (b2 * px + d2 * py + f2) + f)) (.leaf no) (.br (decide (a * d - b * c = 0)) (.br (cmpR ((a * qx + c * qy + e - (a * px + c * py + e)) * (b * rx + d * ry + f - (b * px + d * py + f)) - (b * qx + d * qy + f - (b * px + d * py + f)) * (a * rx + c * ry + e - (a * px + c * py + e))) (((qx - px) * (ry - py) - (qy - py) * (rx - px)) * (a * d - b * c)) == 0) (.br (cmpR ((a * a2 + c * b2) * (b * c2 + d * d2) - (b * a2 + d * b2) * (a * c2 + c * d2)) ((a * d - b * c) * (a2 * d2 - b2 * c2)) == 0) (.br (decide (a * (px + (qx - px) * mkRat 1 3) + c * (py + (qy - py) * mkRat 1 3) + e = a * px + c * py + e + (a * qx + c * qy + e - (a * px + c * py + e)) * mkRat 1 3 ∧ b * (px + (qx - px) * mkRat 1 3) + d * (py + (qy - py) * mkRat 1 3) + f = b * px + d * py + f + (b * qx + d * qy + f - (b * px + d * py + f)) * mkRat 1 3)) (.leaf yes) (.leaf no)) (.leaf no)) (.leaf no)) (.br (!decide (a * (d * (mkRat 1 1 / (a * d - b * c))) + c * (-b * (mkRat 1 1 / (a * d - b * c))) = mkRat 65536 65536 ∧ b * (d * (mkRat 1 1 / (a * d - b * c))) + d * (-b * (mkRat 1 1 / (a * d - b * c))) = mkRat 0 65536 ∧ a * (-c * (mkRat 1 1 / (a * d - b * c))) + c * (a * (mkRat 1 1 / (a * d - b * c))) = mkRat 0 65536 ∧ b * (-c * (mkRat 1 1 / (a * d - b * c))) + d * (a * (mkRat 1 1 / (a * d - b * c))) = mkRat 65536 65536 ∧ a * -(d * (mkRat 1 1 / (a * d - b * c)) * e + -c * (mkRat 1 1 / (a * d - b * c)) * f) + c * -(-b * (mkRat 1 1 / (a * d - b * c)) * e + a * (mkRat 1 1 / (a * d - b * c)) * f) + e = mkRat 0 64 ∧ b * -(d * (mkRat 1 1 / (a * d - b * c)) * e + -c * (mkRat 1 1 / (a * d - b * c)) * f) + d * -(-b * (mkRat 1 1 / (a * d - b * c)) * e + a * (mkRat 1 1 / (a * d - b * c)) * f) + f = mkRat 0 64)) (.leaf no) (.br (!decide (d * (mkRat 1 1 / (a * d - b * c)) * a + -c * (mkRat 1 1 / (a * d - b * c)) * b = mkRat 65536 65536 ∧ -b * (mkRat 1 1 / (a * d - b * c)) * a + a * (mkRat 1 1 / (a * d - b * c)) * b = mkRat 0 65536 ∧ d * (mkRat 1 1 / (a * d - b * c)) * c + -c * (mkRat 1 1 / (a * d - b * c)) * d = mkRat 0 65536 ∧ -b * (mkRat 1 1 / (a * d - b * c)) * c + a * (mkRat 1 1 / (a * d - b * c)) * d = mkRat 65536 65536 ∧ d * (mkRat 1 1 / (a * d - b * c)) * e + -c * (mkRat 1 1 / (a * d - b * c)) * f + -(d * (mkRat 1 1 / (a * d - b * c)) * e + -c * (mkRat 1 1 / (a * d - b * c)) * f) = mkRat 0 64 ∧ -b * (mkRat 1 1 / (a * d - b * c)) * e + a * (mkRat 1 1 / (a * d - b * c)) * f + -(-b * (mkRat 1 1 / (a * d - b * c)) * e + a * (mkRat 1 1 / (a * d - b * c)) * f) = mkRat 0 64)) (.leaf no) (.br (!decide (d * (mkRat 1 1 / (a * d - b * c)) * (a * qx + c * qy + e) + -c * (mkRat 1 1 / (a * d - b * c)) * (b * qx + d * qy + f) + -(d * (mkRat 1 1 / (a * d - b * c)) * e + -c * (mkRat 1 1 / (a * d - b * c)) * f) = qx ∧ -b * (mkRat 1 1 / (a * d - b * c)) * (a * qx + c * qy + e) + a * (mkRat 1 1 / (a * d - b * c)) * (b * qx + d * qy + f) + -(-b * (mkRat 1 1 / (a * d - b * c)) * e + a * (mkRat 1 1 / (a * d - b * c)) * f) = qy)) (.leaf no) (.br (cmpR ((a * qx + c * qy + e - (a * px + c * py + e)) * (b * rx + d * ry + f - (b * px + d * py + f)) - (b * qx + d * qy + f - (b * px + d * py + f)) * (a * rx + c * ry + e - (a * px + c * py + e))) (((qx - px) * (ry - py) - (qy - py) * (rx - px)) * (a * d - b * c)) == 0) (.br (cmpR ((a * a2 + c * b2) * (b * c2 + d * d2) - (b * a2 + d * b2) * (a * c2 + c * d2)) ((a * d - b * c) * (a2 * d2 - b2 * c2)) == 0) (.br (decide (a * (px + (qx - px) * mkRat 1 3) + c * (py + (qy - py) * mkRat 1 3) + e = a * px + c * py + e + (a * qx + c * qy + e - (a * px + c * py + e)) * mkRat 1 3 ∧ b * (px + (qx - px) * mkRat 1 3) + d * (py + (qy - py) * mkRat 1 3) + f = b * px + d * py + f + (b * qx + d * qy + f - (b * px + d * py + f)) * mkRat 1 3)) (.leaf yes) (.leaf no)) (.leaf no)) (.leaf no))))))))) := by kernel_rfl
set_option maxHeartbeats 2000000 in
theorem matLaws_h1 (x y z x' y' z' p q r : Rp) (a b c d e f a2 b2 c2 d2 e2 f2 px py qx qy rx ry : Rat) : Out.holds (· = yes) (.br (![x, y, z].all (Rp.ok 6)) (.leaf yes) (.br (![x', y', z'].all (Rp.ok 6)) (.leaf yes) (.br (![p, q, r].all (Rp.ok 6)) (.leaf yes) (.br (!decide ((a * a2 + c * b2) * px + (a * c2 + c * d2) * py + (a * e2 + c * f2 + e) = a * (a2 * px + c2 * py + e2) + c * (b2 * px + d2 * py + f2) + e ∧ (b * a2 + d * b2) * px + (b * c2 + d * d2) * py + (b * e2 + d * f2 + f) = b * (a2 * px + c2 * py + e2) + d * (b2 * px + d2 * py + f2) + f)) (.leaf no) (.br (decide (a * d - b * c = 0)) (.br (cmpR ((a * qx + c * qy + e - (a * px + c * py + e)) * (b * rx + d * ry + f - (b * px + d * py + f)) - (b * qx + d * qy + f - (b * px + d * py + f)) * (a * rx + c * ry + e - (a * px + c * py + e))) (((qx - px) * (ry - py) - (qy - py) * (rx - px)) * (a * d - b * c)) == 0) (.br (cmpR ((a * a2 + c * b2) * (b * c2 + d * d2) - (b * a2 + d * b2) * (a * c2 + c * d2)) ((a * d - b * c) * (a2 * d2 - b2 * c2)) == 0) (.br (decide (a * (px + (qx - px) * mkRat 1 3) + c * (py + (qy - py) * mkRat 1 3) + e = a * px + c * py + e + (a * qx + c * qy + e - (a * px + c * py + e)) * mkRat 1 3 ∧ b * (px + (qx - px) * mkRat 1 3) + d * (py + (qy - py) * mkRat 1 3) + f = b * px + d * py + f + (b * qx + d * qy + f - (b * px + d * py + f)) * mkRat 1 3)) (.leaf yes) (.leaf no)) (.leaf no)) (.leaf no)) (.br (!decide (a * (d * (mkRat 1 1 / (a * d - b * c))) + c * (-b * (mkRat 1 1 / (a * d - b * c))) = mkRat 65536 65536 ∧ b * (d * (mkRat 1 1 / (a * d - b * c))) + d * (-b * (mkRat 1 1 / (a * d - b * c))) = mkRat 0 65536 ∧ a * (-c * (mkRat 1 1 / (a * d - b * c))) + c * (a * (mkRat 1 1 / (a * d - b * c))) = mkRat 0 65536 ∧ b * (-c * (mkRat 1 1 / (a * d - b * c))) + d * (a * (mkRat 1 1 / (a * d - b * c))) = mkRat 65536 65536 ∧ a * -(d * (mkRat 1 1 / (a * d - b * c)) * e + -c * (mkRat 1 1 / (a * d - b * c)) * f) + c * -(-b * (mkRat 1 1 / (a * d - b * c)) * e + a * (mkRat 1 1 / (a * d - b * c)) * f) + e = mkRat 0 64 ∧ b * -(d * (mkRat 1 1 / (a * d - b * c)) * e + -c * (mkRat 1 1 / (a * d - b * c)) * f) + d * -(-b * (mkRat 1 1 / (a * d - b * c)) * e + a * (mkRat 1 1 / (a * d - b * c)) * f) + f = mkRat 0 64)) (.leaf no) (.br (!decide (d * (mkRat 1 1 / (a * d - b * c)) * a + -c * (mkRat 1 1 / (a * d - b * c)) * b = mkRat 65536 65536 ∧ -b * (mkRat 1 1 / (a * d - b * c)) * a + a * (mkRat 1 1 / (a * d - b * c)) * b = mkRat 0 65536 ∧ d * (mkRat 1 1 / (a * d - b * c)) * c + -c * (mkRat 1 1 / (a * d - b * c)) * d = mkRat 0 65536 ∧ -b * (mkRat 1 1 / (a * d - b * c)) * c + a * (mkRat 1 1 / (a * d - b * c)) * d = mkRat 65536 65536 ∧ d * (mkRat 1 1 / (a * d - b * c)) * e + -c * (mkRat 1 1 / (a * d - b * c)) * f + -(d * (mkRat 1 1 / (a * d - b * c)) * e + -c * (mkRat 1 1 / (a * d - b * c)) * f) = mkRat 0 64 ∧ -b * (mkRat 1 1 / (a * d - b * c)) * e + a * (mkRat 1 1 / (a * d - b * c)) * f + -(-b * (mkRat 1 1 / (a * d - b * c)) * e + a * (mkRat 1 1 / (a * d - b * c)) * f) = mkRat 0 64)) (.leaf no) (.br (!decide (d * (mkRat 1 1 / (a * d - b * c)) * (a * qx + c * qy + e) + -c * (mkRat 1 1 / (a * d - b * c)) * (b * qx + d * qy + f) + -(d * (mkRat 1 1 / (a * d - b * c)) * e + -c * (mkRat 1 1 / (a * d - b * c)) * f) = qx ∧ -b * (mkRat 1 1 / (a * d - b * c)) * (a * qx + c * qy + e) + a * (mkRat 1 1 / (a * d - b * c)) * (b * qx + d * qy + f) + -(-b * (mkRat 1 1 / (a * d - b * c)) * e + a * (mkRat 1 1 / (a * d - b * c)) * f) = qy)) (.leaf no) (.br (cmpR ((a * qx + c * qy + e - (a * px + c * py + e)) * (b * rx + d * ry + f - (b * px + d * py + f)) - (b * qx + d * qy + f - (b * px + d * py + f)) * (a * rx + c * ry + e - (a * px + c * py + e))) (((qx - px) * (ry - py) - (qy - py) * (rx - px)) * (a * d - b * c)) == 0) (.br (cmpR ((a * a2 + c * b2) * (b * c2 + d * d2) - (b * a2 + d * b2) * (a * c2 + c * d2)) ((a * d - b * c) * (a2 * d2 - b2 * c2)) == 0) (.br (decide (a * (px + (qx - px) * mkRat 1 3) + c * (py + (qy - py) * mkRat 1 3) + e = a * px + c * py + e + (a * qx + c * qy + e - (a * px + c * py + e)) * mkRat 1 3 ∧ b * (px + (qx - px) * mkRat 1 3) + d * (py + (qy - py) * mkRat 1 3) + f = b * px + d * py + f + (b * qx + d * qy + f - (b * px + d * py + f)) * mkRat 1 3)) (.leaf yes) (.leaf no)) (.leaf no)) (.leaf no)))))))))) := by
  refine ⟨fun _ => rfl, fun h0 => ⟨fun _ => rfl, fun h1 => ⟨fun _ => rfl, fun h2 => ⟨fun h3 => ?_, fun h3 => ⟨fun h4 => ⟨fun h5 => ⟨fun h6 => ⟨fun _ => rfl, fun h7 => ?_⟩, fun h6 => ?_⟩, fun h5 => ?_⟩, fun h4 => ⟨fun h5 => ?_, fun h5 => ⟨fun h6 => ?_, fun h6 => ⟨fun h7 => ?_, fun h7 => ⟨fun h8 => ⟨fun h9 => ⟨fun _ => rfl, fun h10 => ?_⟩, fun h9 => ?_⟩, fun h8 => ?_⟩⟩⟩⟩⟩⟩⟩⟩⟩
  · refine (t_ndec ?_ h3).elim; (repeat (first | rw [k1] | rw [k2] | rw [k3] | rw [k8] | rw [k11])); refine ⟨?_, ?_⟩ <;> grind
  · refine (t_dec ?_ h7).elim; (repeat (first | rw [k1] | rw [k2] | rw [k3] | rw [k8] | rw [k11])); refine ⟨?_, ?_⟩ <;> grind
  · refine (t_cmp ?_ h6).elim; (repeat (first | rw [k1] | rw [k2] | rw [k3] | rw [k8] | rw [k11])); grind
  · refine (t_cmp ?_ h5).elim; (repeat (first | rw [k1] | rw [k2] | rw [k3] | rw [k8] | rw [k11])); grind
  · refine (t_ndec ?_ h5).elim; (repeat (first | rw [k1] | rw [k2] | rw [k3] | rw [k8] | rw [k11])); have hK := k_fact h4; generalize 1 / (a * d - b * c) = K at hK ⊢; refine ⟨?_, ?_, ?_, ?_, ?_, ?_⟩ <;> grind
  · refine (t_ndec ?_ h6).elim; (repeat (first | rw [k1] | rw [k2] | rw [k3] | rw [k8] | rw [k11])); have hK := k_fact h4; generalize 1 / (a * d - b * c) = K at hK ⊢; refine ⟨?_, ?_, ?_, ?_, ?_, ?_⟩ <;> grind
  · refine (t_ndec ?_ h7).elim; (repeat (first | rw [k1] | rw [k2] | rw [k3] | rw [k8] | rw [k11])); have hK := k_fact h4; generalize 1 / (a * d - b * c) = K at hK ⊢; refine ⟨?_, ?_⟩ <;> grind
  · refine (t_dec ?_ h10).elim; (repeat (first | rw [k1] | rw [k2] | rw [k3] | rw [k8] | rw [k11])); have hK := k_fact h4; generalize 1 / (a * d - b * c) = K at hK ⊢; refine ⟨?_, ?_⟩ <;> grind
  · refine (t_cmp ?_ h9).elim; (repeat (first | rw [k1] | rw [k2] | rw [k3] | rw [k8] | rw [k11])); have hK := k_fact h4; generalize 1 / (a * d - b * c) = K at hK ⊢; grind
  · refine (t_cmp ?_ h8).elim; (repeat (first | rw [k1] | rw [k2] | rw [k3] | rw [k8] | rw [k11])); have hK := k_fact h4; generalize 1 / (a * d - b * c) = K at hK ⊢; grind
theorem matLaws_any (x y z x' y' z' p q r : Rp) (W : World) (hx : PtIn W x) (hy : PtIn W y) (hz : PtIn W z) (hx' : PtIn W x') (hy' : PtIn W y') (hz' : PtIn W z') (hp : PtIn W p) (hq : PtIn W q) (hr : PtIn W r) :
    Calls Tryz.prog 11 #[.agg (x.row ++ y.row ++ z.row).toArray, .agg (x'.row ++ y'.row ++ z'.row).toArray, .agg (p.row ++ q.row ++ r.row).toArray] W (Makes W fun v _ => v = .bool true) := by
  have hl : ∀ (x y z : Rp), (x.row ++ y.row ++ z.row).length ≠ 1 := fun x y z => by simp [Rp.row]
  by_cases hf : [x, y, z].all (Rp.ok 6) = true ∧ [x', y', z'].all (Rp.ok 6) = true ∧ [p, q, r].all (Rp.ok 6) = true
  · obtain ⟨h1, h2, h3⟩ := hf
    simp only [List.all_cons, List.all_nil, Bool.and_eq_true, Bool.and_true] at h1 h2 h3
    obtain ⟨a, b, k1⟩ := hx.ps h1.1
    obtain ⟨c, d, k2⟩ := hy.ps h1.2.1
    obtain ⟨e, f, k3⟩ := hz.ps h1.2.2
    obtain ⟨a2, b2, k4⟩ := hx'.ps h2.1
    obtain ⟨c2, d2, k5⟩ := hy'.ps h2.2.1
    obtain ⟨e2, f2, k6⟩ := hz'.ps h2.2.2
    obtain ⟨px, py, k7⟩ := hp.ps h3.1
    obtain ⟨qx, qy, k8⟩ := hq.ps h3.2.1
    obtain ⟨rx, ry, k9⟩ := hr.ps h3.2.2
    exact law_calls (envOf_ok cons11_ok) Tryz.func11 (matLaws_t1 x y z x' y' z' p q r a b c d e f a2 b2 c2 d2 e2 f2 px py qx qy rx ry) (matLaws_h1 ..)
      ⟨_, _, rfl, has_row (rel3 (Rp.v_rel k1) (Rp.v_rel k2) (Rp.v_rel k3)) (hl _ _ _), _, _, rfl, has_row (rel3 (Rp.v_rel k4) (Rp.v_rel k5) (Rp.v_rel k6)) (hl _ _ _), _, _, rfl, has_row (rel3 (Rp.v_rel k7) (Rp.v_rel k8) (Rp.v_rel k9)) (hl _ _ _), rfl⟩
  · refine law_calls (envOf_ok cons11_ok) Tryz.func11 (matLaws_t0 x y z x' y' z' p q r) ?_
      ⟨_, _, rfl, has_row (rel3 x.sv_rel y.sv_rel z.sv_rel) (hl _ _ _), _, _, rfl, has_row (rel3 x'.sv_rel y'.sv_rel z'.sv_rel) (hl _ _ _), _, _, rfl, has_row (rel3 p.sv_rel q.sv_rel r.sv_rel) (hl _ _ _), rfl⟩
    exact ⟨fun _ => rfl, fun h1 => ⟨fun _ => rfl, fun h2 => ⟨fun _ => rfl, fun h3 => hf ⟨by simpa using h1, by simpa using h2, by simpa using h3⟩⟩⟩⟩
end Go.Proofs.YtafmfnpjhhaikaaGreatDoor
