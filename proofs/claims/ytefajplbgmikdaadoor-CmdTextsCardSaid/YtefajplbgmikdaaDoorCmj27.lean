/-
  The walk of the reference's Good on commands.
-/
import Derived.Test.YtefajplbgmikdaaDoorCmj26
namespace Go.Proofs.YtefajplbgmikdaaDoor
open Go.RowKit

set_option maxHeartbeats 8000000 in
set_option maxRecDepth 100000 in
theorem refGoodC_any (l : List Cm) (v : Value) (w : World) (h : CmdRow w v l) (hok : ∀ c ∈ l, Ok1 c) (hn : l.length ≤ 1000000000) : Calls Tryd.prog 27 #[v] w fun e w' => Bel w w' ∧ e = .returned (.bool (goodC l)) := by
  have H := Lib.hid h
  have HOK := Lib.hid hok
  obtain ⟨p, cp, rfl, _, _⟩ := h
  have HGC := Lib.hid (goodC_eq l)
  clear hok
  go_enter Tryd.func27, Tryd.ntmps27
  by_cases hz : l.length = 0
  · have HR : Hid (goodC l = false) := by unfold Hid; rw [HGC.out, decide_eq_false (show ¬ 0 < l.length by omega)]; simp
    go_wp2
    go_ret
    exact ⟨Bel.refl w, by rw [HR.out]; rfl⟩
  by_cases hbig : 4096 < l.length
  · have HR : Hid (goodC l = false) := by unfold Hid; rw [HGC.out, decide_eq_false (show ¬ l.length ≤ 4096 by omega)]; simp
    have hz' : ((l.length : Int) == 0) = false := beq_false_of_ne (by omega)
    clear hz
    go_wp2
    go_ret
    exact ⟨Bel.refl w, by rw [HR.out]; rfl⟩
  have HG2 : Hid (goodC l = goodL true l) := by unfold Hid; rw [HGC.out, decide_eq_true (show 0 < l.length by omega), decide_eq_true (show l.length ≤ 4096 by omega)]; simp
  have hz' : ((l.length : Int) == 0) = false := beq_false_of_ne (by omega)
  have hbig' : decide ((4096 : Int) < (l.length : Int)) = false := decide_eq_false (by omega)
  clear hz hbig HGC
  go_wp2
  go_loopg [3] l.length (fun gf s3 wx => ∃ k : Nat, s3 = .int .i64 k ∧ k ≤ l.length ∧ l.length ≤ k + gf ∧ goodC l = goodL ((k : Int) == 0) (l.drop k) ∧ Bel w wx)
  case atStart => exact ⟨0, rfl, Nat.zero_le _, by omega, HG2.out, Bel.refl w⟩
  case round =>
    obtain ⟨k, rfl, hkl, hkg, hrel, hbl⟩ := hrel
    have HREL := Lib.hid hrel
    have HBL := Lib.hid hbl
    clear hrel hbl
    by_cases hk : k < l.length
    · obtain ⟨gk', rfl⟩ : ∃ g, gk = g + 1 := ⟨gk - 1, by omega⟩
      obtain ⟨c, hc⟩ : ∃ c, l[k]? = some c := ⟨_, List.getElem?_eq_getElem hk⟩
      obtain ⟨p', cp', he, _, hrow⟩ := H.out
      simp only [Value.slice.injEq] at he
      obtain ⟨rfl, _, rfl⟩ := he
      obtain ⟨b, o, nv, pv, rfl, ⟨q0, q1, q2, q3⟩, hnum, hseg, h6⟩ := hrow k c hc
      replace q0 := HBL.out.cell q0
      replace q1 := HBL.out.cell q1
      replace q2 := HBL.out.cell q2
      replace q3 := HBL.out.cell q3
      obtain ⟨na, nc, hnv⟩ := num_form hnum
      obtain ⟨pa, pc, hpv⟩ := segrow_form hseg
      subst hnv hpv
      obtain ⟨V, hV⟩ : ∃ V, wr.alloc (.cells #[.int .i64 c.kind, .slice na c.n.length nc, .slice pa c.path.length pc, .int .i64 c.place] 73) = V := ⟨_, rfl⟩
      have hWV : Bel wr V := hV ▸ (Bel.refl wr).alloc _
      obtain ⟨R, hR⟩ : ∃ R, wr.heap.size = R := ⟨_, rfl⟩
      have hTV : V.heap[R]? = some (.cells #[.int .i64 c.kind, .slice na c.n.length nc, .slice pa c.path.length pc, .int .i64 c.place] 73 (0, 0)) := hR ▸ hV ▸ heap_alloc_new _ _
      have HTV := Lib.hid hTV
      have HBV := Lib.hid (HBL.out.trans hWV)
      have HNV := Lib.hid (hnum.bel HBV.out)
      have HSV := Lib.hid (hseg.bel HBV.out)
      have HH6 := Lib.hid h6
      have hokc := HOK.out c (List.mem_of_getElem? hc)
      have HD : Hid (goodL ((k : Int) == 0) (l.drop k) = (goodK ((k : Int) == 0) c && goodL (((k + 1 : Nat) : Int) == 0) (l.drop (k + 1)))) := by
        obtain ⟨hlt, e⟩ := List.getElem?_eq_some_iff.1 hc
        unfold Hid
        have e0 : (((k + 1 : Nat) : Int) == 0) = false := by simp; omega
        rw [List.drop_eq_getElem_cons hlt, e, goodL, e0]
      have HNO : Hid (goodK ((k : Int) == 0) c = false → goodC l = false) := fun e => by rw [HREL.out, HD.out, e]; rfl
      have HYES : Hid (goodK ((k : Int) == 0) c = true → goodC l = goodL (((k + 1 : Nat) : Int) == 0) (l.drop (k + 1))) := fun e => by rw [HREL.out, HD.out, e]; rfl
      have HWD := Lib.hid (fun X => refWord_any c.kind X)
      have HOKC := Lib.hid hokc
      clear hWV hTV hc hrow hnum hseg h6 HREL HD hokc
      obtain ⟨kd, n, path, pl⟩ := c
      dsimp only at *
      have v0 : V.cell? ⟨R, 0, none⟩ = some (.int .i64 kd) := by rw [heap_cell HTV.out]; rfl
      have v1 : V.cell? ⟨R, 1, none⟩ = some (.slice na n.length nc) := by rw [heap_cell HTV.out]; rfl
      have v2 : V.cell? ⟨R, 2, none⟩ = some (.slice pa path.length pc) := by rw [heap_cell HTV.out]; rfl
      have v3 : V.cell? ⟨R, 3, none⟩ = some (.int .i64 pl) := by rw [heap_cell HTV.out]; rfl
      go_upto_region 7 with fail
      clear hV hR q0 q1 q2 q3
      by_cases hk15 : 1 ≤ kd ∧ kd ≤ 15
      · obtain ⟨hk1, hk2⟩ := hk15
        obtain ⟨wa, wl, hwd⟩ := kind_words2 hk1 hk2
        rw [hwd] at HWD
        by_cases hf : decide (kd = 1) = ((k : Int) == 0)
        · have hne : ((kd == 1) == ((k : Int) == 0)) = true := by
            rw [← hf]
            by_cases e : kd = 1
            · rw [decide_eq_true e]; subst e; rfl
            · rw [decide_eq_false e, beq_false_of_ne e]; rfl
          have HF := Lib.hid hf
          have HIP := Lib.hid (fun X => refIsPath_any kd hk1 hk2 X)
          cases hp : pathK kd.toNat with
          | true =>
            rw [hp] at HIP
            have HK := Lib.hid (goodK_path (c := ⟨kd, n, path, pl⟩) hk1 hk2 hf hp)
            have HGP : Hid (∀ X, Bel V X → _) := fun X hX => refGood_any path HH6.out (by have := HOKC.out.2; dsimp only at this; omega) _ X (HSV.out.bel hX)
            clear hf hp hwd
            by_cases hn0 : n = []
            · subst hn0
              cases hg : goodS path with
              | true =>
                have HT : Hid (goodC l = goodL (((k + 1 : Nat) : Int) == 0) (l.drop (k + 1))) := HYES.out (by rw [HK.out, hg]; rfl)
                rw [hg] at HGP
                clear hg HNO HYES
                go_wp2_with (first
                  | (go_at_call 43; (with_reducible refine (HWD.out _).mono ?_); rintro e w3 ⟨rfl, hb3⟩; have x0 := hb3.cell v0; have x1 := hb3.cell v1; have x2 := hb3.cell v2; have x3 := hb3.cell v3; have HB3 := Lib.hid (HBV.out.trans hb3); have HV3 := Lib.hid hb3; clear hb3 v0 v1 v2 v3)
                  | (go_at_call 44; (with_reducible refine (HIP.out _).mono ?_); rintro e w4 ⟨rfl, rfl⟩)
                  | (go_at_call 16; (with_reducible refine (HGP.out _ HV3.out).mono ?_); rintro e w5 ⟨rfl, hw5⟩; obtain rfl := hw5.symm))
                go_roundg gk'
                case measure => omega
                case rel => exact ⟨k + 1, rfl, by omega, by omega, HT.out, HB3.out⟩
              | false =>
                have HT := Lib.hid (HNO.out (by rw [HK.out, hg]; rfl))
                rw [hg] at HGP
                clear hg HNO HYES
                go_wp2_with (first
                  | (go_at_call 43; (with_reducible refine (HWD.out _).mono ?_); rintro e w3 ⟨rfl, hb3⟩; have x0 := hb3.cell v0; have x1 := hb3.cell v1; have x2 := hb3.cell v2; have x3 := hb3.cell v3; have HB3 := Lib.hid (HBV.out.trans hb3); have HV3 := Lib.hid hb3; clear hb3 v0 v1 v2 v3)
                  | (go_at_call 44; (with_reducible refine (HIP.out _).mono ?_); rintro e w4 ⟨rfl, rfl⟩)
                  | (go_at_call 16; (with_reducible refine (HGP.out _ HV3.out).mono ?_); rintro e w5 ⟨rfl, hw5⟩; obtain rfl := hw5.symm))
                go_ret
                exact ⟨HB3.out, by rw [HT.out]; rfl⟩
            · have HT := Lib.hid (HNO.out (by rw [HK.out]; dsimp only; rw [decide_eq_false hn0]; rfl))
              have hn0' : ((n.length : Int) != 0) = true := by have := List.length_pos_iff.2 hn0; simpa using hn0
              clear hn0 HNO HYES
              go_wp2_with (first
                | (go_at_call 43; (with_reducible refine (HWD.out _).mono ?_); rintro e w3 ⟨rfl, hb3⟩; have x0 := hb3.cell v0; have x1 := hb3.cell v1; have x2 := hb3.cell v2; have x3 := hb3.cell v3; have HB3 := Lib.hid (HBV.out.trans hb3); have HV3 := Lib.hid hb3; clear hb3 v0 v1 v2 v3)
                | (go_at_call 44; (with_reducible refine (HIP.out _).mono ?_); rintro e w4 ⟨rfl, rfl⟩))
              go_ret
              exact ⟨HB3.out, by rw [HT.out]; rfl⟩
          | false =>
            rw [hp] at HIP
            by_cases hpa : path = []
            · have hneq := fun (wx : World) (a : Option Addr) (n c : Nat) => run_neq_slice_nil_any (P := Tryd.prog) wx 44 9 a n c 0 0 Tryd.underlying44
              have HCH := Lib.hid (fun X => refChoice_any kd hk1 hk2 X)
              subst hpa
              by_cases hw : wordsK kd.toNat = []
              · obtain ⟨HK, hcnt⟩ := goodK_nums (c := ⟨kd, n, [], pl⟩) hk1 hk2 hf hp rfl hw
                dsimp only at HK hcnt
                replace HK := Lib.hid HK
                have HCNT := Lib.hid hcnt
                have HCT := Lib.hid (fun X => refCount_any kd hk1 hk2 X)
                have HW := Lib.hid hw
                obtain ⟨C, hC⟩ : ∃ C, cntR kd.toNat = C := ⟨_, rfl⟩
                rw [hC] at HCT
                have HC := Lib.hid hC
                clear hf hp hwd hw hcnt hC
                go_upto_region 19 with (first
                  | (go_at_call 43; (with_reducible refine (HWD.out _).mono ?_); rintro e w3 ⟨rfl, hb3⟩; have x0 := hb3.cell v0; have x1 := hb3.cell v1; have x2 := hb3.cell v2; have x3 := hb3.cell v3; have HB3 := Lib.hid (HBV.out.trans hb3); have HV3 := Lib.hid hb3; clear hb3 v0 v1 v2 v3)
                  | (go_at_call 44; (with_reducible refine (HIP.out _).mono ?_); rintro e w4 ⟨rfl, rfl⟩)
                  | (go_at_call 45; (with_reducible refine (HCH.out _).mono ?_); rintro e w5 ⟨v5, rfl, hv5, hb5⟩; obtain rfl := choice_nil HW.out hv5; have y0 := hb5.cell x0; have y1 := hb5.cell x1; have y2 := hb5.cell x2; have y3 := hb5.cell x3; have HB5 := Lib.hid (HB3.out.trans hb5); have HV5 := Lib.hid (HV3.out.trans hb5); clear hb5 hv5 x0 x1 x2 x3)
                  | (go_at_call 48; (with_reducible refine (HCT.out _).mono ?_); rintro e w6 ⟨rfl, rfl⟩))
                have HBAD : Hid (cntBad kd.toNat n.length = decide ((0 ≤ C ∧ (n.length : Int) ≠ C) ∨ (C < 0 ∧ 0 < n.length ∧ (n.length < 3 ∨ n.length % 2 = 0 ∨ 17 < n.length)))) := by
                  unfold Hid cntBad
                  rw [HC.out]
                obtain ⟨m, hm⟩ : ∃ m, n.length = m := ⟨_, rfl⟩
                rw [hm] at HBAD HCNT HK y1
                have HM := Lib.hid hm
                have hm1000 : m ≤ 1000 := by have := HOKC.out.1; dsimp only at this; omega
                clear hm
                obtain ⟨bad, hbad⟩ : ∃ bad, cntBad kd.toNat m = bad := ⟨_, rfl⟩
                rw [hbad] at HBAD HCNT HK
                clear hbad
                go_cut [120] from 83 to 120 (fun s120 wx => s120 = .bool bad ∧ w5 = wx)
                case first =>
                  by_cases c0 : 0 ≤ C
                  · have c0' : decide (0 ≤ C) = true := decide_eq_true c0
                    have c1' : decide (C < 0) = false := decide_eq_false (by omega)
                    by_cases e : (m : Int) = C
                    · have e' : ((m : Int) != C) = false := by simpa using e
                      have HR : Hid (bad = false) := by unfold Hid; rw [HBAD.out]; exact decide_eq_false (by omega)
                      clear e c0
                      go_wp2
                      go_meet
                      exact ⟨by rw [HR.out], rfl⟩
                    · have e' : ((m : Int) != C) = true := by simpa using e
                      have HR : Hid (bad = true) := by unfold Hid; rw [HBAD.out]; exact decide_eq_true (.inl ⟨c0, e⟩)
                      clear e c0
                      go_wp2
                      go_meet
                      exact ⟨by rw [HR.out], rfl⟩
                  · have c0' : decide (0 ≤ C) = false := decide_eq_false c0
                    have c1' : decide (C < 0) = true := decide_eq_true (by omega)
                    have c1 : C < 0 := by omega
                    clear c0
                    by_cases z : 0 < m
                    · by_cases z3 : m < 3
                      · have HR : Hid (bad = true) := by unfold Hid; rw [HBAD.out]; exact decide_eq_true (.inr ⟨c1, z, .inl z3⟩)
                        go_wp2
                        go_meet
                        exact ⟨by rw [HR.out], rfl⟩
                      · have tm : Int.tmod (m : Int) 2 = ((m % 2 : Nat) : Int) := Int.ofNat_tmod m 2 |>.symm
                        obtain ⟨q, hq⟩ : ∃ q, m % 2 = q := ⟨_, rfl⟩
                        rw [hq] at tm
                        have hq2 : q < 2 := by omega
                        by_cases z2 : q = 0
                        · have HR : Hid (bad = true) := by unfold Hid; rw [HBAD.out]; exact decide_eq_true (.inr ⟨c1, z, .inr (.inl (by omega))⟩)
                          subst z2
                          clear hq
                          go_wp2
                          go_meet
                          exact ⟨by rw [HR.out], rfl⟩
                        · obtain rfl : q = 1 := by omega
                          by_cases z17 : 17 < m
                          · have HR : Hid (bad = true) := by unfold Hid; rw [HBAD.out]; exact decide_eq_true (.inr ⟨c1, z, .inr (.inr z17)⟩)
                            clear hq
                            go_wp2
                            go_meet
                            exact ⟨by rw [HR.out]; simp; omega, rfl⟩
                          · have HR : Hid (bad = false) := by unfold Hid; rw [HBAD.out]; exact decide_eq_false (by omega)
                            clear hq
                            go_wp2
                            go_meet
                            exact ⟨by rw [HR.out]; simp; omega, rfl⟩
                    · have HR : Hid (bad = false) := by unfold Hid; rw [HBAD.out]; exact decide_eq_false (by omega)
                      go_wp2
                      go_meet
                      exact ⟨by rw [HR.out], rfl⟩
                case rest =>
                obtain ⟨rfl, rfl⟩ := hcut
                cases bad with
                | true =>
                  have HT := Lib.hid (HNO.out (by rw [HK.out]; rfl))
                  go_wp2
                  go_ret
                  exact ⟨HB5.out, by rw [HT.out]; rfl⟩
                | false =>
                obtain ⟨kn, hkn⟩ : ∃ kn : Nat, kd = kn := ⟨kd.toNat, by omega⟩
                subst hkn
                obtain ⟨hsl, hm17⟩ : (spansK kn m).length = m ∧ m ≤ 17 := HCNT.out rfl
                have HSL := Lib.hid hsl
                obtain ⟨Z, hZ⟩ : ∃ Z, (spansK kn m).zip n = Z := ⟨_, rfl⟩
                have HZ := Lib.hid hZ
                have HKK : Hid (goodK ((k : Int) == 0) ⟨kn, n, [], pl⟩ = (Z.all inSpan && soundS kn n)) := by rw [← hZ]; exact HK.out
                have hzl : Z.length = m := by rw [← hZ, List.length_zip, hsl, HM.out, Nat.min_self]
                have HZL := Lib.hid hzl
                replace HW : Hid (wordsK kn = []) := HW
                clear hsl hZ hzl HBAD HCNT HK HCH HCT HIP HWD hne
                go_wp2
                go_loopg [7] m (fun gf s7 wx => ∃ j d : Nat, s7 = .int .i64 j ∧ j ≤ m ∧ m ≤ j + gf ∧ Z.all inSpan = (Z.drop j).all inSpan ∧ wx = w5.drewN d)
                case atStart => exact ⟨0, 0, rfl, Nat.zero_le _, by omega, rfl, (World.drewN_zero w5).symm⟩
                case round =>
                  obtain ⟨j, d, rfl, hjm, hjg, hall, hwd⟩ := hrel
                  have HALL := Lib.hid hall
                  have HWD := Lib.hid hwd
                  have HBX : Hid (Bel w5 wr) := hwd ▸ (Bel.refl w5).drewN d
                  have z0 := HBX.out.cell y0
                  have z1 := HBX.out.cell y1
                  have z2 := HBX.out.cell y2
                  have z3 := HBX.out.cell y3
                  clear hall hwd
                  by_cases hj : j < m
                  · obtain ⟨gj, rfl⟩ : ∃ g, gk = g + 1 := ⟨gk - 1, by omega⟩
                    obtain ⟨x, hx⟩ : ∃ x, n[j]? = some x := ⟨_, List.getElem?_eq_getElem (by rw [HM.out]; exact hj)⟩
                    obtain ⟨sp, hsp⟩ : ∃ sp, (spansK kn m)[j]? = some sp := ⟨_, List.getElem?_eq_getElem (by rw [HSL.out]; exact hj)⟩
                    have HA : Hid ((Z.drop j).all inSpan = (inSpan (sp, x) && (Z.drop (j + 1)).all inSpan)) := by
                      have := zip_at hsp hx
                      rw [HZ.out] at this
                      exact this
                    obtain ⟨nb, no, nc', he, _, r0⟩ := (HNV.out.bel (HV5.out.trans HBX.out)).at hx
                    simp only [Value.slice.injEq] at he
                    obtain ⟨rfl, _, rfl⟩ := he
                    have HWI := Lib.hid (fun X => (refWithin_any kn j m x sp HW.out hsp X).mono fun _ _ h => (⟨h.1, h.2.symm⟩ : _ ∧ _ = X))
                    clear hx hsp
                    cases hin : inSpan (sp, x) with
                    | true =>
                      have HST : Hid (Z.all inSpan = (Z.drop (j + 1)).all inSpan) := by unfold Hid; rw [HALL.out, HA.out, hin]; rfl
                      unfold inSpan at hin
                      dsimp only at hin
                      rw [hin] at HWI
                      clear hin
                      go_wp2_with fail
                      go_quiet ((go_at_call 49; exact Calls.quiet_of_same (HWI.out _)))
                      go_wp2
                      go_roundg gj
                      case measure => omega
                      case rel => exact ⟨j + 1, d + nq, rfl, by omega, by omega, HST.out, by rw [HWD.out, World.drewN_drewN]⟩
                    | false =>
                      have HT := Lib.hid (HNO.out (by rw [HKK.out, HALL.out, HA.out, hin]; rfl))
                      unfold inSpan at hin
                      dsimp only at hin
                      rw [hin] at HWI
                      clear hin
                      go_wp2_with fail
                      go_quiet ((go_at_call 49; exact Calls.quiet_of_same (HWI.out _)))
                      go_wp2
                      go_ret
                      exact ⟨(HB5.out.trans HBX.out).drewN _, by rw [HT.out]; rfl⟩
                  · obtain rfl : j = m := by omega
                    have hall : Z.all inSpan = true := by rw [HALL.out, List.drop_of_length_le (by have := HZL.out; omega)]; rfl
                    have HS : Hid (goodK ((k : Int) == 0) ⟨kn, n, [], pl⟩ = soundS kn n) := by unfold Hid; rw [HKK.out, hall, Bool.true_and]
                    have HNUM := Lib.hid (zip_in (l := n) (by rw [HSL.out, HM.out]) (spans_in kn j) (by rw [HZ.out]; exact hall))
                    have HWH := Lib.hid (refWhole_any ⟨kn, n, [], pl⟩ (.slice na n.length nc) (.slice pa 0 pc) wr (HNV.out.bel (HV5.out.trans HBX.out)) (fun e => by
                        dsimp only at e
                        refine ⟨?_, HNUM.out⟩
                        have e2 : kn = 2 := by omega
                        have h1 := HSL.out
                        rw [e2] at h1
                        have h2 : (spansK 2 j).length = 6 := rfl
                        dsimp only
                        rw [HM.out]
                        omega) (fun e => by
                        dsimp only at e
                        have e2 : kn = 12 := by omega
                        have h1 := hall
                        rw [← HZ.out, e2] at h1
                        exact span_dash h1 HM.out) (by dsimp only; rw [HM.out]; omega) hk1)
                    dsimp only at HWH
                    rw [HM.out, show ((kn : Int)).toNat = kn by omega] at HWH
                    clear hall
                    cases hso : soundS kn n with
                    | true =>
                      rw [hso] at HWH HS
                      have HT : Hid (goodC l = goodL (((k + 1 : Nat) : Int) == 0) (l.drop (k + 1))) := HYES.out HS.out
                      clear hso
                      go_wp2_with (first
                        | (go_at_call 50; (with_reducible refine (HWH.out).mono ?_); rintro e w8 ⟨rfl, hb8⟩; have HB8 := Lib.hid ((HB5.out.trans HBX.out).trans hb8); clear hb8))
                      go_roundg gk'
                      case measure => omega
                      case rel => exact ⟨k + 1, rfl, by omega, by omega, HT.out, HB8.out⟩
                    | false =>
                      rw [hso] at HWH HS
                      have HT := Lib.hid (HNO.out HS.out)
                      clear hso
                      go_wp2_with (first
                        | (go_at_call 50; (with_reducible refine (HWH.out).mono ?_); rintro e w8 ⟨rfl, hb8⟩; have HB8 := Lib.hid ((HB5.out.trans HBX.out).trans hb8); clear hb8))
                      go_ret
                      exact ⟨HB8.out, by rw [HT.out]; rfl⟩
              · have HK := Lib.hid (goodK_words (c := ⟨kd, n, [], pl⟩) hk1 hk2 hf hp rfl hw)
                obtain ⟨m, hm⟩ : ∃ m, (wordsK kd.toNat).length = m := ⟨_, rfl⟩
                have hm3 : m ≤ 3 := by rw [← hm]; unfold wordsK; (repeat' split) <;> decide
                dsimp only at HK
                rw [hm] at HK
                have HW := Lib.hid hw
                have HM := Lib.hid hm
                clear hf hp hwd hw hm
                match n, HK, HNV, HOKC, HNO, HYES, HTV, v1 with
                | [], HK, HNV, HOKC, HNO, HYES, HTV, v1 =>
                  have HT := Lib.hid (HNO.out HK.out)
                  dsimp only [List.length_nil] at v1
                  go_wp2_with (first
                    | (go_at_call 43; (with_reducible refine (HWD.out _).mono ?_); rintro e w3 ⟨rfl, hb3⟩; have x0 := hb3.cell v0; have x1 := hb3.cell v1; have x2 := hb3.cell v2; have x3 := hb3.cell v3; have HB3 := Lib.hid (HBV.out.trans hb3); have HV3 := Lib.hid hb3; clear hb3 v0 v1 v2 v3)
                    | (go_at_call 44; (with_reducible refine (HIP.out _).mono ?_); rintro e w4 ⟨rfl, rfl⟩)
                    | (go_at_call 45; (with_reducible refine (HCH.out _).mono ?_); rintro e w5 ⟨v5, rfl, hv5, hb5⟩; obtain ⟨g5, rfl, _⟩ := choice_row HW.out HM.out hv5; have y0 := hb5.cell x0; have y1 := hb5.cell x1; have y2 := hb5.cell x2; have HB5 := Lib.hid (HB3.out.trans hb5); clear hb5 hv5 x0 x1 x2 x3))
                  go_ret
                  exact ⟨HB5.out, by rw [HT.out]; rfl⟩
                | a :: b2 :: r, HK, HNV, HOKC, HNO, HYES, HTV, v1 =>
                  have HT := Lib.hid (HNO.out HK.out)
                  obtain ⟨len, hlen⟩ : ∃ len, (a :: b2 :: r).length = len := ⟨_, rfl⟩
                  have hl2 : 2 ≤ len := by rw [← hlen]; simp
                  have hl1 : ((len : Int) != 1) = true := by
                    have : ¬ (len : Int) = 1 := by omega
                    simpa using this
                  rw [hlen] at v1
                  clear hlen
                  go_wp2_with (first
                    | (go_at_call 43; (with_reducible refine (HWD.out _).mono ?_); rintro e w3 ⟨rfl, hb3⟩; have x0 := hb3.cell v0; have x1 := hb3.cell v1; have x2 := hb3.cell v2; have x3 := hb3.cell v3; have HB3 := Lib.hid (HBV.out.trans hb3); have HV3 := Lib.hid hb3; clear hb3 v0 v1 v2 v3)
                    | (go_at_call 44; (with_reducible refine (HIP.out _).mono ?_); rintro e w4 ⟨rfl, rfl⟩)
                    | (go_at_call 45; (with_reducible refine (HCH.out _).mono ?_); rintro e w5 ⟨v5, rfl, hv5, hb5⟩; obtain ⟨g5, rfl, _⟩ := choice_row HW.out HM.out hv5; have y0 := hb5.cell x0; have y1 := hb5.cell x1; have y2 := hb5.cell x2; have HB5 := Lib.hid (HB3.out.trans hb5); clear hb5 hv5 x0 x1 x2 x3))
                  go_ret
                  exact ⟨HB5.out, by rw [HT.out]; rfl⟩
                | [x], HK, HNV, HOKC, HNO, HYES, HTV, v1 =>
                  obtain ⟨nb, no, nc', he, _, r0⟩ := HNV.out.at (j := 0) (x := x) rfl
                  simp only [Value.slice.injEq] at he
                  obtain ⟨rfl, _, rfl⟩ := he
                  rw [Nat.add_zero] at r0
                  dsimp only [List.length_cons, List.length_nil] at v1
                  by_cases h0 : 0 ≤ x
                  · have h0' : decide (x < 0) = false := decide_eq_false (by omega)
                    by_cases hx : x < (m : Int)
                    · have hx' : decide ((m : Int) ≤ x) = false := decide_eq_false (by omega)
                      have HT : Hid (goodC l = goodL (((k + 1 : Nat) : Int) == 0) (l.drop (k + 1))) := HYES.out (by rw [HK.out]; dsimp only; rw [decide_eq_true h0, decide_eq_true hx]; rfl)
                      go_wp2_with (first
                        | (go_at_call 43; (with_reducible refine (HWD.out _).mono ?_); rintro e w3 ⟨rfl, hb3⟩; have x0 := hb3.cell v0; have x1 := hb3.cell v1; have x2 := hb3.cell v2; have x3 := hb3.cell v3; have HB3 := Lib.hid (HBV.out.trans hb3); have HV3 := Lib.hid hb3; clear hb3 v0 v1 v2 v3)
                        | (go_at_call 44; (with_reducible refine (HIP.out _).mono ?_); rintro e w4 ⟨rfl, rfl⟩)
                        | (go_at_call 45; (with_reducible refine (HCH.out _).mono ?_); rintro e w5 ⟨v5, rfl, hv5, hb5⟩; obtain ⟨g5, rfl, _⟩ := choice_row HW.out HM.out hv5; have y0 := hb5.cell x0; have y1 := hb5.cell x1; have y2 := hb5.cell x2; have s0 := (HV3.out.trans hb5).cell r0; have HB5 := Lib.hid (HB3.out.trans hb5); clear hb5 hv5 x0 x1 x2 x3))
                      go_roundg gk'
                      case measure => omega
                      case rel => exact ⟨k + 1, rfl, by omega, by omega, HT.out, HB5.out⟩
                    · have hx' : decide ((m : Int) ≤ x) = true := decide_eq_true (by omega)
                      have HT := Lib.hid (HNO.out (by rw [HK.out]; dsimp only; rw [decide_eq_false hx, Bool.and_false]))
                      go_wp2_with (first
                        | (go_at_call 43; (with_reducible refine (HWD.out _).mono ?_); rintro e w3 ⟨rfl, hb3⟩; have x0 := hb3.cell v0; have x1 := hb3.cell v1; have x2 := hb3.cell v2; have x3 := hb3.cell v3; have HB3 := Lib.hid (HBV.out.trans hb3); have HV3 := Lib.hid hb3; clear hb3 v0 v1 v2 v3)
                        | (go_at_call 44; (with_reducible refine (HIP.out _).mono ?_); rintro e w4 ⟨rfl, rfl⟩)
                        | (go_at_call 45; (with_reducible refine (HCH.out _).mono ?_); rintro e w5 ⟨v5, rfl, hv5, hb5⟩; obtain ⟨g5, rfl, _⟩ := choice_row HW.out HM.out hv5; have y0 := hb5.cell x0; have y1 := hb5.cell x1; have y2 := hb5.cell x2; have s0 := (HV3.out.trans hb5).cell r0; have HB5 := Lib.hid (HB3.out.trans hb5); clear hb5 hv5 x0 x1 x2 x3))
                      go_ret
                      exact ⟨HB5.out, by rw [HT.out]; rfl⟩
                  · have h0' : decide (x < 0) = true := decide_eq_true (by omega)
                    have HT := Lib.hid (HNO.out (by rw [HK.out]; dsimp only; rw [decide_eq_false h0, Bool.false_and]))
                    go_wp2_with (first
                      | (go_at_call 43; (with_reducible refine (HWD.out _).mono ?_); rintro e w3 ⟨rfl, hb3⟩; have x0 := hb3.cell v0; have x1 := hb3.cell v1; have x2 := hb3.cell v2; have x3 := hb3.cell v3; have HB3 := Lib.hid (HBV.out.trans hb3); have HV3 := Lib.hid hb3; clear hb3 v0 v1 v2 v3)
                      | (go_at_call 44; (with_reducible refine (HIP.out _).mono ?_); rintro e w4 ⟨rfl, rfl⟩)
                      | (go_at_call 45; (with_reducible refine (HCH.out _).mono ?_); rintro e w5 ⟨v5, rfl, hv5, hb5⟩; obtain ⟨g5, rfl, _⟩ := choice_row HW.out HM.out hv5; have y0 := hb5.cell x0; have y1 := hb5.cell x1; have y2 := hb5.cell x2; have s0 := (HV3.out.trans hb5).cell r0; have HB5 := Lib.hid (HB3.out.trans hb5); clear hb5 hv5 x0 x1 x2 x3))
                    go_ret
                    exact ⟨HB5.out, by rw [HT.out]; rfl⟩
            · have HT := Lib.hid (HNO.out (by
                unfold goodK
                dsimp only
                rw [if_neg (by rintro (h | h | h); · omega
                               · omega
                               · exact h hf), if_neg (by rw [hp]; simp), if_pos hpa]))
              have hpa' : ((path.length : Int) != 0) = true := by simpa using hpa
              clear hf hp hwd hpa HNO HYES
              go_wp2_with (first
                | (go_at_call 43; (with_reducible refine (HWD.out _).mono ?_); rintro e w3 ⟨rfl, hb3⟩; have x0 := hb3.cell v0; have x1 := hb3.cell v1; have x2 := hb3.cell v2; have x3 := hb3.cell v3; have HB3 := Lib.hid (HBV.out.trans hb3); have HV3 := Lib.hid hb3; clear hb3 v0 v1 v2 v3)
                | (go_at_call 44; (with_reducible refine (HIP.out _).mono ?_); rintro e w4 ⟨rfl, rfl⟩))
              go_ret
              exact ⟨HB3.out, by rw [HT.out]; rfl⟩
        · have hne : ((kd == 1) == ((k : Int) == 0)) = false := by
            have e2 : (kd == 1) = decide (kd = 1) := by
              by_cases e : kd = 1
              · subst e; rfl
              · rw [decide_eq_false e, beq_false_of_ne e]
            rw [e2]
            exact beq_false_of_ne hf
          have HT := Lib.hid (HNO.out (by unfold goodK; dsimp only; rw [if_pos (.inr (.inr hf))]))
          clear hf hwd HNO HYES
          go_wp2_with (first
            | (go_at_call 43; (with_reducible refine (HWD.out _).mono ?_); rintro e w3 ⟨rfl, hb3⟩; have x0 := hb3.cell v0; have x1 := hb3.cell v1; have x2 := hb3.cell v2; have x3 := hb3.cell v3; have HB3 := Lib.hid (HBV.out.trans hb3); have HV3 := Lib.hid hb3; clear hb3 v0 v1 v2 v3))
          go_ret
          exact ⟨HB3.out, by rw [HT.out]; rfl⟩
      · have hwd := kind_words hk15
        rw [hwd] at HWD
        have HT := Lib.hid (HNO.out (by unfold goodK; dsimp only; rw [if_pos (by omega)]))
        clear hk15 hwd HNO HYES
        go_wp2_with (first
          | (go_at_call 43; (with_reducible refine (HWD.out _).mono ?_); rintro e w3 ⟨rfl, hb3⟩; have x0 := hb3.cell v0; have x1 := hb3.cell v1; have x2 := hb3.cell v2; have x3 := hb3.cell v3; have HB3 := Lib.hid (HBV.out.trans hb3); have HV3 := Lib.hid hb3; clear hb3 v0 v1 v2 v3))
        go_ret
        exact ⟨HB3.out, by rw [HT.out]; rfl⟩
    · obtain rfl : k = l.length := by omega
      have HR : Hid (goodC l = true) := by unfold Hid; rw [HREL.out, List.drop_length]; rfl
      go_wp2
      go_ret
      exact ⟨HBL.out, by rw [HR.out]; rfl⟩
end Go.Proofs.YtefajplbgmikdaaDoor
