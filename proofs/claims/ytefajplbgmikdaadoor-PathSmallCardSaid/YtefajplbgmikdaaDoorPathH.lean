/-
  The walk of the reader's letter, where it goes on.
-/
import Derived.Test.YtefajplbgmikdaaDoorPathG
namespace Go.Proofs.YtefajplbgmikdaaDoor
open Go.RowKit

set_option maxHeartbeats 4000000 in
set_option maxRecDepth 100000 in
theorem letter_move0_more (c : Nat) (hc : c < 256) (pl en : Int) (hp1 : -4611686018427387904 ≤ pl) (hp2 : pl ≤ 4611686018427387904) (r : Nat) (lv pv : Value) (l : List Tok) (_ : wt l ≤ 900000000) (w : World) (hr : Rul w) (hst : St w r lv en pv l []) (hx : ruleOf c = some ⟨77, 2, 1⟩)  :
    Calls Tryd.prog 80 #[.pointer (some ⟨r, 0, none⟩), .int .u8 c, .int .i64 pl, .bool true] w (OncePost w r en (letterS en c pl true l [])) := by
  have hfd := find_any c w hc hr
  unfold FindPost at hfd
  rw [find_row hx] at hfd
  have hL : letterS en c pl true l [] = .error (pl + 1) := by
    unfold letterS
    rw [hx]
    simp only
    rw [if_neg (by simp), if_pos ⟨by trivial, (by decide)⟩]
  rw [hL]
  have HST := Lib.hid hst
  clear hL hst hr
  go_enter Tryd.func80, Tryd.ntmps80
  go_wp2_with fail
  refine hfd.mono ?_
  rintro e w1 ⟨rfl, hb1⟩
  have HB1 := Lib.hid hb1
  have HS1 := Lib.hid (st_bel HST.out hb1)
  clear hb1
  obtain ⟨q2, pp, pc, rfl⟩ := st_facts HS1.out
  unfold rlV
  go_wp2_with (first
    | (go_at_call 79; (with_reducible refine (fail_any r lv _ (.pointer none) en _ _ (st_bel HS1.out ((Bel.refl _).alloc _)).rd).mono ?_); rintro e w2 ⟨rfl, hb2, hk2, hbad⟩; have HX := Lib.hid (bad_post HST.out (Bel.trans HB1.out ((Bel.refl _).alloc _)) hb2 hk2 hbad); clear hb2 hk2 hbad))
  exact bodyPost_ret (v := .tuple #[]) (by simp [results, Tryd.results80, go_sem]) rfl HX.out

set_option maxHeartbeats 4000000 in
set_option maxRecDepth 100000 in
theorem letter_move_more (c : Nat) (hc : c < 256) (pl en : Int) (hp1 : -4611686018427387904 ≤ pl) (hp2 : pl ≤ 4611686018427387904) (r : Nat) (lv pv : Value) (l : List Tok) (ini : List Part) (z : Part) (hps : ini.length + wt l ≤ 900000000) (w : World) (hr : Rul w) (hst : St w r lv en pv l (ini ++ [z])) (hx : ruleOf c = some ⟨77, 2, 1⟩)  :
    Calls Tryd.prog 80 #[.pointer (some ⟨r, 0, none⟩), .int .u8 c, .int .i64 pl, .bool true] w (OncePost w r en (letterS en c pl true l (ini ++ [z]))) := by
  have hfd := find_any c w hc hr
  unfold FindPost at hfd
  rw [find_row hx] at hfd
  have hL : letterS en c pl true l (ini ++ [z]) = .error (pl + 1) := by
    unfold letterS
    rw [hx]
    simp only
    rw [if_neg (by simp), if_pos ⟨by trivial, (by decide)⟩]
  rw [hL]
  have HST := Lib.hid hst
  clear hL hst hr
  have hil : ini.length ≤ 1000000000 := by omega
  go_enter Tryd.func80, Tryd.ntmps80
  go_wp2_with fail
  refine hfd.mono ?_
  rintro e w1 ⟨rfl, hb1⟩
  have HB1 := Lib.hid hb1
  have HS1 := Lib.hid (st_bel HST.out hb1)
  clear hb1
  have hq2 := (st_facts HS1.out).1
  obtain ⟨g, cap, rfl, hzk⟩ := prow_some HS1.out.2.2
  have hzk2 : ∀ o, (w1.alloc o).cell? ⟨g, ini.length * 6 + 2, none⟩ = some (.int .i64 z.r.kind) := fun o => ((Bel.refl w1).alloc o).cell hzk
  clear hzk
  unfold rlV
  go_wp2_with (first
    | (go_at_call 79; (with_reducible refine (fail_any r lv _ (.pointer none) en _ _ (st_bel HS1.out ((Bel.refl _).alloc _)).rd).mono ?_); rintro e w2 ⟨rfl, hb2, hk2, hbad⟩; have HX := Lib.hid (bad_post HST.out (Bel.trans HB1.out ((Bel.refl _).alloc _)) hb2 hk2 hbad); clear hb2 hk2 hbad))
  exact bodyPost_ret (v := .tuple #[]) (by simp [results, Tryd.results80, go_sem]) rfl HX.out

set_option maxHeartbeats 4000000 in
set_option maxRecDepth 100000 in
theorem letter_close (c : Nat) (hc : c < 256) (pl en : Int)  (r : Nat) (lv pv : Value) (l : List Tok) (ini : List Part) (z : Part) (hps : ini.length + wt l ≤ 900000000) (w : World) (hr : Rul w) (hst : St w r lv en pv l (ini ++ [z])) (hx : ruleOf c = some ⟨90, 0, 6⟩) (hz6 : z.r.kind ≠ 6)  :
    Calls Tryd.prog 80 #[.pointer (some ⟨r, 0, none⟩), .int .u8 c, .int .i64 pl, .bool false] w (OncePost w r en (letterS en c pl false l (ini ++ [z]))) := by
  have hfd := find_any c w hc hr
  unfold FindPost at hfd
  rw [find_row hx] at hfd
  have hL : letterS en c pl false l (ini ++ [z]) = match onceS en (⟨90, 0, 6⟩ : Rl) (smallC c) pl l (ini ++ [z]) with | .ok (l', ps') => againS en (⟨90, 0, 6⟩ : Rl) (smallC c) l'.length l' ps' | .error e => .error e := by
    unfold letterS
    rw [hx]
    simp only
    rw [if_neg (by simp [lastKind, hz6]), if_neg (by simp)]
    rfl
  obtain ⟨R, hR⟩ : ∃ R, letterS en c pl false l (ini ++ [z]) = R := ⟨_, rfl⟩
  rw [hR] at hL ⊢
  have HL := Lib.hid hL
  have HST := Lib.hid hst
  clear hL hR hst hr
  have hil : ini.length ≤ 1000000000 := by omega
  go_enter Tryd.func80, Tryd.ntmps80
  go_wp2_with fail
  refine hfd.mono ?_
  rintro e w1 ⟨rfl, hb1⟩
  have HB1 := Lib.hid hb1
  have HS1 := Lib.hid (st_bel HST.out hb1)
  clear hb1
  have hq2 := (st_facts HS1.out).1
  obtain ⟨g, cap, rfl, hzk⟩ := prow_some HS1.out.2.2
  have hzk2 : ∀ o, (w1.alloc o).cell? ⟨g, ini.length * 6 + 2, none⟩ = some (.int .i64 z.r.kind) := fun o => ((Bel.refl w1).alloc o).cell hzk
  clear hzk
  have hz6' : ((z.r.kind : Int) == 6) = false := by simp; omega
  clear hz6
  unfold rlV
  have hon : ∀ V, V = w1.alloc (.cells #[.int .u8 90, .int .i64 0, .int .i64 6] 121) → Calls Tryd.prog 104 #[.pointer (some ⟨r, 0, none⟩), .agg #[.int .u8 90, .int .i64 0, .int .i64 6], .bool (smallC c), .int .i64 pl] V (OncePost V r en (onceS en ⟨90, 0, 6⟩ (smallC c) pl l (ini ++ [z]))) := fun V h => by
    subst h
    exact once_any ⟨90, 0, 6⟩ (by decide) (smallC c) pl en r lv _ l (ini ++ [z]) (by simp; omega) _ (st_bel HS1.out ((Bel.refl _).alloc _))
  have HON := Lib.hid hon
  clear hon
  go_wp2_with (first
    | (go_at_call 104; (with_reducible refine (HON.out _ rfl).mono ?_); rintro e w2 hon2; have HON2 := Lib.hid hon2; (have he2 := hon2.1); subst he2; (have hx2 := (Bx.kp (w := w1.alloc (.cells #[.int .u8 90, .int .i64 0, .int .i64 6] 121)) (X := w1.heap.size) (x := ⟨90, 0, 6⟩) (heap_alloc_new _ _) hon2.2.2.1)); have HX2 := Lib.hid hx2; (obtain ⟨⟨b0, b1, b2⟩, bf⟩ := hx2.all); dsimp only at b0 b1 b2; clear hon2 hx2))
  obtain ⟨f0, HLP⟩ := lp_start (x := ⟨90, 0, 6⟩) (sm := smallC c) (pl := pl) (R := R) HST.out HB1.out HON2.out (by simp; omega) HL.out
  go_loopg [] f0 (fun gf wx => Lp w wx r w1.heap.size ⟨90, 0, 6⟩ (smallC c) en R gf)
  case atStart => exact HLP.out
  case round =>
    obtain ⟨hbl, hkp, hbx, hst⟩ := hrel
    have HBL := Lib.hid hbl
    have HKP := Lib.hid hkp
    obtain ⟨⟨x0, x1, x2⟩, xf⟩ := hbx.all
    dsimp only at x0 x1 x2
    clear hbl hkp hbx xf
    have HFIN : Hid (OncePost w r en R (.returned (.tuple #[])) wr) := by
      rcases hst with ⟨lv1, pv1, l1, ps1, hl1, hw1, hst1, hR1⟩ | ⟨rfl, lv1, pv1, a1, hbad1, hR1⟩
      · exact lp_end HBL.out HKP.out hst1 hR1 (by simp)
      · exact lp_bad HBL.out HKP.out hbad1 hR1
    clear hst
    go_wp2
    exact bodyPost_end (v := .tuple #[]) (by simp [results, Tryd.results80, go_sem]) rfl HFIN.out

set_option maxHeartbeats 4000000 in
set_option maxRecDepth 100000 in
theorem letter_close_more (c : Nat) (hc : c < 256) (pl en : Int)  (r : Nat) (lv pv : Value) (l : List Tok) (ini : List Part) (z : Part) (hps : ini.length + wt l ≤ 900000000) (w : World) (hr : Rul w) (hst : St w r lv en pv l (ini ++ [z])) (hx : ruleOf c = some ⟨90, 0, 6⟩) (hz6 : z.r.kind ≠ 6)  :
    Calls Tryd.prog 80 #[.pointer (some ⟨r, 0, none⟩), .int .u8 c, .int .i64 pl, .bool true] w (OncePost w r en (letterS en c pl true l (ini ++ [z]))) := by
  have hfd := find_any c w hc hr
  unfold FindPost at hfd
  rw [find_row hx] at hfd
  have hL : letterS en c pl true l (ini ++ [z]) = match onceS en (⟨90, 0, 6⟩ : Rl) (smallC c) pl l (ini ++ [z]) with | .ok (l', ps') => againS en (⟨90, 0, 6⟩ : Rl) (smallC c) l'.length l' ps' | .error e => .error e := by
    unfold letterS
    rw [hx]
    simp only
    rw [if_neg (by simp [lastKind, hz6]), if_neg (by simp)]
    rfl
  obtain ⟨R, hR⟩ : ∃ R, letterS en c pl true l (ini ++ [z]) = R := ⟨_, rfl⟩
  rw [hR] at hL ⊢
  have HL := Lib.hid hL
  have HST := Lib.hid hst
  clear hL hR hst hr
  have hil : ini.length ≤ 1000000000 := by omega
  go_enter Tryd.func80, Tryd.ntmps80
  go_wp2_with fail
  refine hfd.mono ?_
  rintro e w1 ⟨rfl, hb1⟩
  have HB1 := Lib.hid hb1
  have HS1 := Lib.hid (st_bel HST.out hb1)
  clear hb1
  have hq2 := (st_facts HS1.out).1
  obtain ⟨g, cap, rfl, hzk⟩ := prow_some HS1.out.2.2
  have hzk2 : ∀ o, (w1.alloc o).cell? ⟨g, ini.length * 6 + 2, none⟩ = some (.int .i64 z.r.kind) := fun o => ((Bel.refl w1).alloc o).cell hzk
  clear hzk
  have hz6' : ((z.r.kind : Int) == 6) = false := by simp; omega
  clear hz6
  unfold rlV
  have hon : ∀ V, V = w1.alloc (.cells #[.int .u8 90, .int .i64 0, .int .i64 6] 121) → Calls Tryd.prog 104 #[.pointer (some ⟨r, 0, none⟩), .agg #[.int .u8 90, .int .i64 0, .int .i64 6], .bool (smallC c), .int .i64 pl] V (OncePost V r en (onceS en ⟨90, 0, 6⟩ (smallC c) pl l (ini ++ [z]))) := fun V h => by
    subst h
    exact once_any ⟨90, 0, 6⟩ (by decide) (smallC c) pl en r lv _ l (ini ++ [z]) (by simp; omega) _ (st_bel HS1.out ((Bel.refl _).alloc _))
  have HON := Lib.hid hon
  clear hon
  go_wp2_with (first
    | (go_at_call 104; (with_reducible refine (HON.out _ rfl).mono ?_); rintro e w2 hon2; have HON2 := Lib.hid hon2; (have he2 := hon2.1); subst he2; (have hx2 := (Bx.kp (w := w1.alloc (.cells #[.int .u8 90, .int .i64 0, .int .i64 6] 121)) (X := w1.heap.size) (x := ⟨90, 0, 6⟩) (heap_alloc_new _ _) hon2.2.2.1)); have HX2 := Lib.hid hx2; (obtain ⟨⟨b0, b1, b2⟩, bf⟩ := hx2.all); dsimp only at b0 b1 b2; clear hon2 hx2))
  obtain ⟨f0, HLP⟩ := lp_start (x := ⟨90, 0, 6⟩) (sm := smallC c) (pl := pl) (R := R) HST.out HB1.out HON2.out (by simp; omega) HL.out
  go_loopg [] f0 (fun gf wx => Lp w wx r w1.heap.size ⟨90, 0, 6⟩ (smallC c) en R gf)
  case atStart => exact HLP.out
  case round =>
    obtain ⟨hbl, hkp, hbx, hst⟩ := hrel
    have HBL := Lib.hid hbl
    have HKP := Lib.hid hkp
    obtain ⟨⟨x0, x1, x2⟩, xf⟩ := hbx.all
    dsimp only at x0 x1 x2
    clear hbl hkp hbx xf
    have HFIN : Hid (OncePost w r en R (.returned (.tuple #[])) wr) := by
      rcases hst with ⟨lv1, pv1, l1, ps1, hl1, hw1, hst1, hR1⟩ | ⟨rfl, lv1, pv1, a1, hbad1, hR1⟩
      · exact lp_end HBL.out HKP.out hst1 hR1 (by simp)
      · exact lp_bad HBL.out HKP.out hbad1 hR1
    clear hst
    go_wp2
    exact bodyPost_end (v := .tuple #[]) (by simp [results, Tryd.results80, go_sem]) rfl HFIN.out

end Go.Proofs.YtefajplbgmikdaaDoor
