/-
  The walk of the reader's letter, where it goes on.
-/
import Derived.Test.YtefajplbgmikdaaDoorPathH
namespace Go.Proofs.YtefajplbgmikdaaDoor
open Go.RowKit

set_option maxHeartbeats 4000000 in
set_option maxRecDepth 100000 in
theorem letter_move0 (c : Nat) (hc : c < 256) (pl en : Int)  (r : Nat) (lv pv : Value) (l : List Tok) (hps : wt l ≤ 900000000) (w : World) (hr : Rul w) (hst : St w r lv en pv l []) (hx : ruleOf c = some ⟨77, 2, 1⟩) (hg : 2 < r) :
    Calls Tryd.prog 80 #[.pointer (some ⟨r, 0, none⟩), .int .u8 c, .int .i64 pl, .bool false] w (OncePost w r en (letterS en c pl false l [])) := by
  have hfd := find_any c w hc hr
  unfold FindPost at hfd
  rw [find_row hx] at hfd
  have hL : letterS en c pl false l [] = match onceS en (⟨77, 2, 1⟩ : Rl) (smallC c) pl l [] with | .ok (l', ps') => againS en ruleL (smallC c) l'.length l' ps' | .error e => .error e := by
    unfold letterS
    rw [hx]
    simp only
    rw [if_neg (by simp), if_neg (by simp)]
    rfl
  obtain ⟨R, hR⟩ : ∃ R, letterS en c pl false l [] = R := ⟨_, rfl⟩
  rw [hR] at hL ⊢
  have HL := Lib.hid hL
  have HST := Lib.hid hst
  have HRUL := Lib.hid hr
  clear hL hR hst hr
  go_enter Tryd.func80, Tryd.ntmps80
  go_wp2_with fail
  refine hfd.mono ?_
  rintro e w1 ⟨rfl, hb1⟩
  have HB1 := Lib.hid hb1
  have HS1 := Lib.hid (st_bel HST.out hb1)
  clear hb1
  obtain ⟨q2, pp, pc, rfl⟩ := st_facts HS1.out
  unfold rlV
  have hon : ∀ V, V = w1.alloc (.cells #[.int .u8 77, .int .i64 2, .int .i64 1] 121) → Calls Tryd.prog 104 #[.pointer (some ⟨r, 0, none⟩), .agg #[.int .u8 77, .int .i64 2, .int .i64 1], .bool (smallC c), .int .i64 pl] V (OncePost V r en (onceS en ⟨77, 2, 1⟩ (smallC c) pl l [])) := fun V h => by
    subst h
    exact once_any ⟨77, 2, 1⟩ (by decide) (smallC c) pl en r lv _ l [] (by simp) _ (st_bel HS1.out ((Bel.refl _).alloc _))
  have HON := Lib.hid hon
  clear hon
  have HRW : Hid (∀ V, Below r (w1.alloc (.cells #[.int .u8 77, .int .i64 2, .int .i64 1] 121)) V → Rul V) := fun V h => ((HRUL.out.below (Below.mono HB1.out (Nat.le_of_lt (heap_lt HST.out.1))) hg).alloc' _).below h hg
  go_wp2_with (first
    | (go_at_call 104; (with_reducible refine (HON.out _ rfl).mono ?_); rintro e w2 hon2; have HON2 := Lib.hid hon2; (have he2 := hon2.1); subst he2; (have hx2 := (Bx.kp (w := w1.alloc (.cells #[.int .u8 77, .int .i64 2, .int .i64 1] 121)) (X := w1.heap.size) (x := ⟨77, 2, 1⟩) (heap_alloc_new _ _) hon2.2.2.1)); have HX2 := Lib.hid hx2; (obtain ⟨⟨b0, b1, b2⟩, bf⟩ := hx2.all); dsimp only at b0 b1 b2; clear hon2 hx2)
    | (go_at_call 103; (with_reducible refine (find_76 _ (HRW.out _ (OncePost.below HON2.out))).mono ?_); rintro e w3 ⟨rfl, hb3⟩; have HB3 := Lib.hid hb3; (have hx3 : Bx w3 w1.heap.size ⟨77, 2, 1⟩ := hb3.heap HX2.out); (obtain ⟨⟨d0, d1, d2⟩, df⟩ := hx3.all); dsimp only at d0 d1 d2; clear hb3 hx3))
  obtain ⟨f0, HLP⟩ := lp_move (sm := smallC c) (pl := pl) (R := R) HST.out HB1.out HON2.out HB3.out (by simp; omega) HL.out
  go_loopg [] f0 (fun gf wx => Lp w wx r w1.heap.size ruleL (smallC c) en R gf)
  case atStart => exact HLP.out
  case round =>
    obtain ⟨hbl, hkp, hbx, hst⟩ := hrel
    have HBL := Lib.hid hbl
    have HKP := Lib.hid hkp
    have HBX := Lib.hid hbx
    obtain ⟨⟨x0, x1, x2⟩, xf⟩ := hbx.all
    dsimp only [ruleL] at x0 x1 x2
    clear hbl hkp hbx xf
    rcases hst with ⟨lv1, pv1, l1, ps1, hl1, hw1, hst1, hR1⟩ | ⟨rfl, lv1, pv1, a1, hbad1, hR1⟩
    · have HST1 := Lib.hid hst1
      have HR1 := Lib.hid hR1
      obtain ⟨⟨r0, r1, r2, r3⟩, _⟩ := hst1.1.all
      have hnum := number_yes r lv1 pv1 (.pointer none) en l1 r wr hst1.1 hst1.2.1
      have hpla := place_any r lv1 pv1 (.pointer none) en l1 r wr hst1.1 hst1.2.1
      clear hst1 hR1
      cases hn : numS l1 with
      | false =>
        have HEND := Lib.hid (lp_end HBL.out HKP.out HST1.out HR1.out (by simp [hn]))
        rw [hn] at hnum
        go_wp2_with (first
          | (go_at_call 105; (with_reducible refine hnum.mono ?_); rintro e w9 ⟨rfl, rfl⟩))
        exact bodyPost_end (v := .tuple #[]) (by simp [results, Tryd.results80, go_sem]) rfl HEND.out
      | true =>
        rw [hn] at hnum
        obtain ⟨g', rfl⟩ : ∃ g', gk = g' + 1 := by
          cases l1 with
          | nil => simp [numS] at hn
          | cons t l2 => exact ⟨gk - 1, by simp at hl1; omega⟩
        have honce := fun (W : World) (h : W = wr.drew) => once_any ruleL (by decide) (smallC c) (placeS en l1) en r lv1 pv1 l1 ps1 (by omega) W (by rw [h]; exact st_bel HST1.out (Bel.refl _).drew)
        have hone : Calls Tryd.prog 104 #[.pointer (some ⟨r, 0, none⟩), .agg #[.int .u8 76, .int .i64 2, .int .i64 2], .bool (smallC c), .int .i64 (placeS en l1)] wr.drew (OncePost wr.drew r en (onceS en ruleL (smallC c) (placeS en l1) l1 ps1)) := honce _ rfl
        have hpla' : Calls Tryd.prog 106 #[.pointer (some ⟨r, 0, none⟩)] wr.drew fun e w' => e = .returned (.int .i64 (placeS en l1)) ∧ wr.drew = w' := place_any r lv1 pv1 (.pointer none) en l1 r wr.drew (st_bel HST1.out (Bel.refl _).drew).1 (st_bel HST1.out (Bel.refl _).drew).2.1
        clear honce hpla
        go_wp2_with (first
          | (go_at_call 105; (with_reducible refine hnum.mono ?_); rintro e w9 ⟨rfl, rfl⟩))
        go_region_law (first
          | (go_simp; go_at_call 106; (with_reducible refine hpla'.mono ?_); rintro e w9 ⟨rfl, rfl⟩)
          | (go_simp; go_at_call 104; (with_reducible refine hone.mono ?_); rintro e w9 ho9; (have he9 := ho9.1); subst he9))
        all_goals
          obtain ⟨gg, hgg, HLP9⟩ := lp_once (w1 := wr.drew) (HBL.out.drew) (Kp.trans HKP.out (Bel.kp (Bel.refl _).drew)) (HBX.out.kp (Bel.kp (Bel.refl _).drew)) ho9 hw1 (by decide) R g' (by dsimp only [ruleL]; omega) (by rw [HR1.out, againS, if_pos (show 0 < (ruleL : Rl).count ∧ numS l1 = true from ⟨(by decide), hn⟩)]; rfl)
          have HLP9 := Lib.hid HLP9
          clear ho9
          go_wp2
          go_roundg gg
          case measure => omega
          case rel => exact HLP9.out
    · have HR1 := Lib.hid hR1
      have HBD := Lib.hid hbad1
      obtain ⟨b9, hrd9, _, _⟩ := hbad1
      obtain ⟨⟨r0, r1, r2, r3⟩, _⟩ := hrd9.all
      clear hrd9 hR1
      go_wp2
      exact bodyPost_end (v := .tuple #[]) (by simp [results, Tryd.results80, go_sem]) rfl (lp_bad HBL.out HKP.out HBD.out HR1.out)

set_option maxHeartbeats 4000000 in
set_option maxRecDepth 100000 in
theorem letter_move (c : Nat) (hc : c < 256) (pl en : Int)  (r : Nat) (lv pv : Value) (l : List Tok) (ini : List Part) (z : Part) (hps : ini.length + wt l ≤ 900000000) (w : World) (hr : Rul w) (hst : St w r lv en pv l (ini ++ [z])) (hx : ruleOf c = some ⟨77, 2, 1⟩) (hg : 2 < r) :
    Calls Tryd.prog 80 #[.pointer (some ⟨r, 0, none⟩), .int .u8 c, .int .i64 pl, .bool false] w (OncePost w r en (letterS en c pl false l (ini ++ [z]))) := by
  have hfd := find_any c w hc hr
  unfold FindPost at hfd
  rw [find_row hx] at hfd
  have hL : letterS en c pl false l (ini ++ [z]) = match onceS en (⟨77, 2, 1⟩ : Rl) (smallC c) pl l (ini ++ [z]) with | .ok (l', ps') => againS en ruleL (smallC c) l'.length l' ps' | .error e => .error e := by
    unfold letterS
    rw [hx]
    simp only
    rw [if_neg (by simp), if_neg (by simp)]
    rfl
  obtain ⟨R, hR⟩ : ∃ R, letterS en c pl false l (ini ++ [z]) = R := ⟨_, rfl⟩
  rw [hR] at hL ⊢
  have HL := Lib.hid hL
  have HST := Lib.hid hst
  have HRUL := Lib.hid hr
  clear hL hR hst hr
  have hil : ini.length ≤ 1000000000 := by omega
  go_enter Tryd.func80, Tryd.ntmps80
  go_wp2_with fail
  refine hfd.mono ?_
  rintro e w1 ⟨rfl, hb1⟩
  have HB1 := Lib.hid hb1
  have HS1 := Lib.hid (st_bel HST.out hb1)
  clear hb1
  have hq2 := (st_facts HS1.out).1
  obtain ⟨g, cap, rfl, hzk⟩ := prow_some HS1.out.2.2
  have hzk2 : ∀ o, (w1.alloc o).cell? ⟨g, ini.length * 6 + 2, none⟩ = some (.int .i64 z.r.kind) := fun o => ((Bel.refl w1).alloc o).cell hzk
  clear hzk
  unfold rlV
  have hon : ∀ V, V = w1.alloc (.cells #[.int .u8 77, .int .i64 2, .int .i64 1] 121) → Calls Tryd.prog 104 #[.pointer (some ⟨r, 0, none⟩), .agg #[.int .u8 77, .int .i64 2, .int .i64 1], .bool (smallC c), .int .i64 pl] V (OncePost V r en (onceS en ⟨77, 2, 1⟩ (smallC c) pl l (ini ++ [z]))) := fun V h => by
    subst h
    exact once_any ⟨77, 2, 1⟩ (by decide) (smallC c) pl en r lv _ l (ini ++ [z]) (by simp; omega) _ (st_bel HS1.out ((Bel.refl _).alloc _))
  have HON := Lib.hid hon
  clear hon
  have HRW : Hid (∀ V, Below r (w1.alloc (.cells #[.int .u8 77, .int .i64 2, .int .i64 1] 121)) V → Rul V) := fun V h => ((HRUL.out.below (Below.mono HB1.out (Nat.le_of_lt (heap_lt HST.out.1))) hg).alloc' _).below h hg
  go_wp2_with (first
    | (go_at_call 104; (with_reducible refine (HON.out _ rfl).mono ?_); rintro e w2 hon2; have HON2 := Lib.hid hon2; (have he2 := hon2.1); subst he2; (have hx2 := (Bx.kp (w := w1.alloc (.cells #[.int .u8 77, .int .i64 2, .int .i64 1] 121)) (X := w1.heap.size) (x := ⟨77, 2, 1⟩) (heap_alloc_new _ _) hon2.2.2.1)); have HX2 := Lib.hid hx2; (obtain ⟨⟨b0, b1, b2⟩, bf⟩ := hx2.all); dsimp only at b0 b1 b2; clear hon2 hx2)
    | (go_at_call 103; (with_reducible refine (find_76 _ (HRW.out _ (OncePost.below HON2.out))).mono ?_); rintro e w3 ⟨rfl, hb3⟩; have HB3 := Lib.hid hb3; (have hx3 : Bx w3 w1.heap.size ⟨77, 2, 1⟩ := hb3.heap HX2.out); (obtain ⟨⟨d0, d1, d2⟩, df⟩ := hx3.all); dsimp only at d0 d1 d2; clear hb3 hx3))
  obtain ⟨f0, HLP⟩ := lp_move (sm := smallC c) (pl := pl) (R := R) HST.out HB1.out HON2.out HB3.out (by simp; omega) HL.out
  go_loopg [] f0 (fun gf wx => Lp w wx r w1.heap.size ruleL (smallC c) en R gf)
  case atStart => exact HLP.out
  case round =>
    obtain ⟨hbl, hkp, hbx, hst⟩ := hrel
    have HBL := Lib.hid hbl
    have HKP := Lib.hid hkp
    have HBX := Lib.hid hbx
    obtain ⟨⟨x0, x1, x2⟩, xf⟩ := hbx.all
    dsimp only [ruleL] at x0 x1 x2
    clear hbl hkp hbx xf
    rcases hst with ⟨lv1, pv1, l1, ps1, hl1, hw1, hst1, hR1⟩ | ⟨rfl, lv1, pv1, a1, hbad1, hR1⟩
    · have HST1 := Lib.hid hst1
      have HR1 := Lib.hid hR1
      obtain ⟨⟨r0, r1, r2, r3⟩, _⟩ := hst1.1.all
      have hnum := number_yes r lv1 pv1 (.pointer none) en l1 r wr hst1.1 hst1.2.1
      have hpla := place_any r lv1 pv1 (.pointer none) en l1 r wr hst1.1 hst1.2.1
      clear hst1 hR1
      cases hn : numS l1 with
      | false =>
        have HEND := Lib.hid (lp_end HBL.out HKP.out HST1.out HR1.out (by simp [hn]))
        rw [hn] at hnum
        go_wp2_with (first
          | (go_at_call 105; (with_reducible refine hnum.mono ?_); rintro e w9 ⟨rfl, rfl⟩))
        exact bodyPost_end (v := .tuple #[]) (by simp [results, Tryd.results80, go_sem]) rfl HEND.out
      | true =>
        rw [hn] at hnum
        obtain ⟨g', rfl⟩ : ∃ g', gk = g' + 1 := by
          cases l1 with
          | nil => simp [numS] at hn
          | cons t l2 => exact ⟨gk - 1, by simp at hl1; omega⟩
        have honce := fun (W : World) (h : W = wr.drew) => once_any ruleL (by decide) (smallC c) (placeS en l1) en r lv1 pv1 l1 ps1 (by omega) W (by rw [h]; exact st_bel HST1.out (Bel.refl _).drew)
        have hone : Calls Tryd.prog 104 #[.pointer (some ⟨r, 0, none⟩), .agg #[.int .u8 76, .int .i64 2, .int .i64 2], .bool (smallC c), .int .i64 (placeS en l1)] wr.drew (OncePost wr.drew r en (onceS en ruleL (smallC c) (placeS en l1) l1 ps1)) := honce _ rfl
        have hpla' : Calls Tryd.prog 106 #[.pointer (some ⟨r, 0, none⟩)] wr.drew fun e w' => e = .returned (.int .i64 (placeS en l1)) ∧ wr.drew = w' := place_any r lv1 pv1 (.pointer none) en l1 r wr.drew (st_bel HST1.out (Bel.refl _).drew).1 (st_bel HST1.out (Bel.refl _).drew).2.1
        clear honce hpla
        go_wp2_with (first
          | (go_at_call 105; (with_reducible refine hnum.mono ?_); rintro e w9 ⟨rfl, rfl⟩))
        go_region_law (first
          | (go_simp; go_at_call 106; (with_reducible refine hpla'.mono ?_); rintro e w9 ⟨rfl, rfl⟩)
          | (go_simp; go_at_call 104; (with_reducible refine hone.mono ?_); rintro e w9 ho9; (have he9 := ho9.1); subst he9))
        all_goals
          obtain ⟨gg, hgg, HLP9⟩ := lp_once (w1 := wr.drew) (HBL.out.drew) (Kp.trans HKP.out (Bel.kp (Bel.refl _).drew)) (HBX.out.kp (Bel.kp (Bel.refl _).drew)) ho9 hw1 (by decide) R g' (by dsimp only [ruleL]; omega) (by rw [HR1.out, againS, if_pos (show 0 < (ruleL : Rl).count ∧ numS l1 = true from ⟨(by decide), hn⟩)]; rfl)
          have HLP9 := Lib.hid HLP9
          clear ho9
          go_wp2
          go_roundg gg
          case measure => omega
          case rel => exact HLP9.out
    · have HR1 := Lib.hid hR1
      have HBD := Lib.hid hbad1
      obtain ⟨b9, hrd9, _, _⟩ := hbad1
      obtain ⟨⟨r0, r1, r2, r3⟩, _⟩ := hrd9.all
      clear hrd9 hR1
      go_wp2
      exact bodyPost_end (v := .tuple #[]) (by simp [results, Tryd.results80, go_sem]) rfl (lp_bad HBL.out HKP.out HBD.out HR1.out)

end Go.Proofs.YtefajplbgmikdaaDoor
