/-
  The walk of a line's read: its word.
-/
import Derived.Test.YtefajplbgmikdaaDoorCmj12
import Derived.Test.YtefajplbgmikdaaDoorCmj10
import Derived.Test.YtefajplbgmikdaaDoorCmj13
namespace Go.Proofs.YtefajplbgmikdaaDoor
open Go.RowKit

theorem bel_grown {w w' : World} (h : Bel w w') (row : Option Nat) : w.grownBy w' row := ⟨h.os, h.tape, h.output, h.size, fun k hk _ => h.block k hk⟩
theorem set_grown {w : World} {G o : Nat} (v : Value) : w.grownBy (w.setCell ⟨G, o, none⟩ v) (some G) :=
  ⟨rfl, rfl, rfl, by simp, fun k _ hne => Below.heap_setCell _ _ _ _ (fun e => hne (by rw [e]))⟩
theorem grown_below {w w' : World} {G : Nat} (h : w.grownBy w' (some G)) (hG : G < w.heap.size) : Below G w w' := ⟨h.os, h.tape, h.output, h.size, fun k hk => h.block k (by omega) (fun e => by simp at e; omega)⟩
/-- What read leaves behind. -/
def RdPost (w : World) (G o : Nat) (cs : Array Value) (first : Bool) (ts : List Tok) (en : Int) (e : Ending) (w' : World) : Prop :=
  w.grownBy w' (some G) ∧ match readC first (ts, en) with
  | .ok y => e = .returned (.pointer none) ∧ ∃ lv', w'.heap[G]? = some (.cells (((cs.setIfInBounds o (.int .i64 y.kind)).setIfInBounds (o + 1) (.int .i64 y.place)).setIfInBounds (o + 2) lv') 96 (0, 0)) ∧ TokRow w' G lv' y.l
  | .error a => ∃ b, e = .returned (.pointer (some ⟨b, 0, none⟩)) ∧ w'.heap[b]? = some (.cells #[.int .i64 a, .int .i64 20] 99 (0, 0))
set_option maxHeartbeats 4000000 in
set_option maxRecDepth 100000 in
theorem readLine_any (G o : Nat) (cs : Array Value) (first : Bool) (t : Tok) (r : List Tok) (lv : Value) (en : Int) (w : World) (hG : w.heap[G]? = some (.cells cs 96 (0, 0))) (ho : o + 3 < cs.size) (hc2 : cs[o + 2]? = some lv) (hc3 : cs[o + 3]? = some (.int .i64 en))
    (htk : TokRow w G lv (t :: r)) (hok : ∀ x ∈ t :: r, TkOk x) (hwt : wt (t :: r) ≤ 800000000) (hr : Rul w) (hg : 2 < G) :
    Calls Tryd.prog 52 #[.pointer (some ⟨G, o, none⟩), .bool first] w (RdPost w G o cs first (t :: r) en) := by
  have hGs := heap_lt hG
  obtain ⟨b, oo, c, rfl, hrc, hbG, ⟨q0, q1, q2, q3⟩, htl⟩ := htk.cons
  obtain ⟨np, hnp⟩ : ∃ np, (if c = 1 then (some ⟨b, oo, none⟩ : Option Addr) else some ⟨b, oo + 4, none⟩) = np := ⟨_, rfl⟩
  rw [hnp] at htl
  have HTL := Lib.hid htl
  have d2 : w.cell? ⟨G, o + 2, none⟩ = some (.slice (some ⟨b, oo, none⟩) (r.length + 1) c) := by rw [heap_cell hG]; exact hc2
  have d3 : w.cell? ⟨G, o + 3, none⟩ = some (.int .i64 en) := by rw [heap_cell hG]; exact hc3
  have d0 : ∃ u, w.cell? ⟨G, o, none⟩ = some u := ⟨cs[o], by rw [heap_cell hG]; simp⟩
  have d1 : ∃ u, w.cell? ⟨G, o + 1, none⟩ = some u := ⟨cs[o + 1], by rw [heap_cell hG]; simp⟩
  obtain ⟨u0, d0⟩ := d0
  obtain ⟨u1, d1⟩ := d1
  have HG := Lib.hid hG
  have HOK := Lib.hid hok
  have HWT := Lib.hid hwt
  have HR := Lib.hid hr
  have HC2 := Lib.hid hc2
  have HC3 := Lib.hid hc3
  have HO := Lib.hid ho
  clear htk htl hok hwt hr hc2 hc3 hG
  go_enter Tryd.func52, Tryd.ntmps52
  go_upto_region 2 with fail
  have HBW : Hid (Bel w (w.alloc (.cells #[.int .i64 t.kind, .string ⟨t.s.toArray⟩, .int .i64 t.n, .int .i64 t.place] 106))) := (Bel.refl w).alloc _
  have HTW : Hid ((w.alloc (.cells #[.int .i64 t.kind, .string ⟨t.s.toArray⟩, .int .i64 t.n, .int .i64 t.place] 106)).heap[w.heap.size]? = some (.cells #[.int .i64 t.kind, .string ⟨t.s.toArray⟩, .int .i64 t.n, .int .i64 t.place] 106 (0, 0))) := heap_alloc_new _ _
  generalize w.alloc (.cells #[.int .i64 t.kind, .string ⟨t.s.toArray⟩, .int .i64 t.n, .int .i64 t.place] 106) = W at HBW HTW ⊢
  obtain ⟨T, hT⟩ : ∃ T, w.heap.size = T := ⟨_, rfl⟩
  have hne : ¬ T = G := by omega
  have hne2 : ¬ G = T := by omega
  rw [hT] at HTW ⊢
  have t0 : W.drew.cell? ⟨T, 0, none⟩ = some (.int .i64 t.kind) := heap_cell HTW.out 0
  have t1 : W.drew.cell? ⟨T, 1, none⟩ = some (.string ⟨t.s.toArray⟩) := heap_cell HTW.out 1
  have t2 : W.drew.cell? ⟨T, 2, none⟩ = some (.int .i64 t.n) := heap_cell HTW.out 2
  have t3 : W.drew.cell? ⟨T, 3, none⟩ = some (.int .i64 t.place) := heap_cell HTW.out 3
  have e0 : W.drew.cell? ⟨G, o, none⟩ = some u0 := HBW.out.cell d0
  have e1 : W.drew.cell? ⟨G, o + 1, none⟩ = some u1 := HBW.out.cell d1
  have e2 : W.drew.cell? ⟨G, o + 2, none⟩ = some (.slice (some ⟨b, oo, none⟩) (r.length + 1) c) := HBW.out.cell d2
  have ef : ∀ j, W.drew.frozen? ⟨G, j, none⟩ = false := fun j => heap_frozen (HBW.out.heap HG.out) j
  have hGW : W.drew.heap[G]? = some (.cells cs 96 (0, 0)) := HBW.out.heap HG.out
  have HGW := Lib.hid hGW
  have s1 : (1 : Int) ≤ (r.length : Int) + 1 := by omega
  clear hGW
  go_cut [] from 12 to 149 (fun wx => w.grownBy wx (some G) ∧ wx.heap[G]? = some (.cells (((cs.setIfInBounds o (.int .i64 (nameS t))).setIfInBounds (o + 1) (.int .i64 t.place)).setIfInBounds (o + 2) (.slice np r.length (c - 1))) 96 (0, 0)) ∧ wx.heap[T]? = some (.cells #[.int .i64 t.kind, .string ⟨t.s.toArray⟩, .int .i64 t.n, .int .i64 t.place] 106 (0, 0)))
  case first =>
    go_region_law (first
      | (go_simp; go_at_call 70; (with_reducible refine (name_any t _).mono ?_); rintro e w2 ⟨hb2, rfl⟩; have f0 := hb2.cell e0; have f1 := hb2.cell e1; have f2 := hb2.cell e2; have f3 := hb2.cell t3; have ff := fun j => (heap_frozen (hb2.heap HGW.out) j : w2.frozen? ⟨G, j, none⟩ = false)))
    all_goals
      go_wp2
      go_meet
      have hbb := HBW.out.trans ((Bel.refl W).drew.trans hb2)
      refine ⟨grown_trans (grown_trans (grown_trans (bel_grown hbb (some G)) (set_grown _)) (set_grown _)) (set_grown _), heap_set (heap_set (heap_set (hb2.heap HGW.out) o _) (o + 1) _) (o + 2) _, ?_⟩
      rw [Below.heap_setCell _ _ _ _ hne, Below.heap_setCell _ _ _ _ hne, Below.heap_setCell _ _ _ _ hne]
      exact hb2.heap (show W.drew.heap[T]? = _ from HTW.out)
  case rest =>
  obtain ⟨hgr, hGc, hTc⟩ := hcut
  obtain ⟨kn, hkn⟩ : ∃ kn, nameS t = kn := ⟨_, rfl⟩
  rw [hkn] at hGc
  have hk15 : kn ≤ 15 := by rw [← hkn]; exact nameS_le t
  have hk16 : kn < 16 := by omega
  have HO2 := HO.out
  have g0 : wc.cell? ⟨G, o, none⟩ = some (.int .i64 kn) := by
    rw [heap_cell hGc, Array.getElem?_setIfInBounds_ne (by omega), Array.getElem?_setIfInBounds_ne (by omega), Array.getElem?_setIfInBounds_self_of_lt (by omega)]
  have g2 : wc.cell? ⟨G, o + 2, none⟩ = some (.slice np r.length (c - 1)) := by
    rw [heap_cell hGc, Array.getElem?_setIfInBounds_self_of_lt (by simp; omega)]
  have g3 : wc.cell? ⟨G, o + 3, none⟩ = some (.int .i64 en) := by
    rw [heap_cell hGc, Array.getElem?_setIfInBounds_ne (by omega), Array.getElem?_setIfInBounds_ne (by omega), Array.getElem?_setIfInBounds_ne (by omega)]
    exact HC3.out
  have y3 : wc.cell? ⟨T, 3, none⟩ = some (.int .i64 t.place) := by rw [heap_cell hTc]; rfl
  have htl2 : TokRow wc G (.slice np r.length (c - 1)) r := HTL.out.below (grown_below hgr hGs)
  have hrul : Rul wc := HR.out.below (grown_below hgr hGs) hg
  have hGw : G < wc.heap.size := heap_lt hGc
  have HGR := Lib.hid hgr
  have HGC := Lib.hid hGc
  have HTL2 := Lib.hid htl2
  have HRU := Lib.hid hrul
  have HKN := Lib.hid hkn
  clear hgr hGc hTc htl2 hrul HO2 d0 d1 d2 d3 t0 t1 t2 t3 e0 e1 e2 ef q0 q1 q2 q3 hnp hkn
  have HE : Hid (∀ (a : Int) V, wc.grownBy V (some G) → readC first (t :: r, en) = .error a → RdPost w G o cs first (t :: r) en (.returned (.pointer (some ⟨V.heap.size, 0, none⟩))) (V.alloc (.cells #[.int .i64 a, .int .i64 20] 99))) := fun a V hV hrd => by
    refine ⟨grown_trans (grown_trans HGR.out hV) (grown_alloc _ _ _), ?_⟩
    rw [hrd]
    exact ⟨_, rfl, heap_alloc_new _ _⟩
  obtain ⟨b1, hb1⟩ : ∃ b1, ((kn : Int) == 0) = b1 := ⟨_, rfl⟩
  obtain ⟨b2, hb2⟩ : ∃ b2, ((kn : Int) == 1) = b2 := ⟨_, rfl⟩
  have hb2' : decide (kn = 1) = b2 := by rw [← hb2]; by_cases e : kn = 1 <;> simp [e]; omega
  cases b1 with
  | true =>
    have hrd : readC first (t :: r, en) = .error t.place := by rw [readC, if_pos (.inl (by rw [HKN.out]; simpa using hb1))]
    have HRD := Lib.hid hrd
    clear hrd
    go_wp2
    go_ret
    exact HE.out _ _ (bel_grown (Bel.refl _) _) HRD.out
  | false =>
    by_cases hbf : b2 = first
    · subst hbf
      have hxor : (b2 != b2) = false := by cases b2 <;> rfl
      have hkn0 : kn ≠ 0 := by
        have := beq_eq_false_iff_ne.1 hb1
        omega
      have HRD : Hid (readC b2 (t :: r, en) = if 0 ≤ badS kn r en then .error (badS kn r en) else .ok ⟨kn, t.place, r, en⟩) := by
        unfold Hid
        rw [readC, HKN.out, if_neg (by rw [hb2']; intro e; rcases e with e | e; exact hkn0 e; exact e rfl)]
      go_upto_region 5 with fail
      go_cut [6] from 36 to 149 (fun s6 wx => ∃ KB a b c, s6 = .pointer (some ⟨KB, 0, none⟩) ∧ KBox wx KB a b c kn ∧ Bel wc wx)
      case first =>
        have e0 : wc.drew.cell? ⟨G, o, none⟩ = some (.int .i64 kn) := g0
        have e4 : ∀ ob, (wc.alloc ob).cell? ⟨G, o, none⟩ = some (.int .i64 kn) := fun ob => ((Bel.refl wc).alloc ob).cell g0
        have e1 : ∀ ob, (wc.alloc ob).drew.cell? ⟨G, o, none⟩ = some (.int .i64 kn) := e4
        have e5 : ∀ ob, (wc.alloc ob).drew.heap[wc.heap.size]? = some ob := fun ob => heap_alloc_new wc ob
        go_region_law (first
          | (go_simp; go_at_call 40; (with_reducible refine (kinds_any _).mono ?_); rintro e w3 ⟨hb3, a, b, c', rfl, hwrd⟩; have hix := kind_at a b c' kn hk16; (obtain ⟨wp, wl, wm, hwv⟩ := wordsV_form a b c' kn); rw [hwv] at hix; (first
              | (have e2 := hb3.cell e0; have e3 : ∀ ob, (w3.alloc ob).cell? ⟨G, o, none⟩ = some (.int .i64 kn) := fun ob => ((Bel.refl w3).alloc ob).cell e2)
              | (have e2 := hb3.cell (e1 _); have hz := hb3.heap (e5 _); have z0 := heap_cell hz 0; have z1 := heap_cell hz 1; have z2 := heap_cell hz 2; have z3 := heap_cell hz 3; have z4 := heap_cell hz 4; have zf := heap_frozen hz)); generalize (kindsV a b c').toArray = KA at hix ⊢))
        all_goals
          go_wp2
          go_meet
          first
            | (have h9 := kbox_new (W := wc) ((Bel.refl wc).drew.trans hb3) hwrd hwv; exact ⟨_, _, _, _, rfl, h9.1, h9.2⟩)
            | (have h9 := kbox_set (W := wc) (((Bel.refl wc).alloc _).drew.trans hb3) (Nat.le_refl _) rfl hz hwrd hwv; exact ⟨_, _, _, _, rfl, h9.1, h9.2⟩)
      case rest =>
      obtain ⟨KB, ka, kb, kc, rfl, hkb, hbk⟩ := hcut
      replace g0 := hbk.cell g0
      replace g2 := hbk.cell g2
      replace g3 := hbk.cell g3
      have z1 : wc.cell? ⟨KB, 1, none⟩ = some (.int .i64 (countC kn)) := by rw [heap_cell hkb.1]; rfl
      have z2 : wc.cell? ⟨KB, 2, none⟩ = some (wordsV ka kb kc kn) := by rw [heap_cell hkb.1]; rfl
      have z3 : wc.cell? ⟨KB, 3, none⟩ = some (.bool (pathK kn)) := by rw [heap_cell hkb.1]; rfl
      have z4 : wc.cell? ⟨KB, 4, none⟩ = some (.bool (dashK kn)) := by rw [heap_cell hkb.1]; rfl
      have htl3 : TokRow wc G (.slice np r.length (c - 1)) r := HTL2.out.below (Below.mono hbk (by omega))
      have HTL3 := Lib.hid htl3
      have HTL4 := Lib.hid (htl3.mono (by have := hbk.size; omega : G ≤ wc.heap.size))
      have HRU3 := Lib.hid (hbk.rul HRU.out)
      have HKB := Lib.hid hkb
      have HBK := Lib.hid hbk
      have HGC3 := Lib.hid (hbk.heap HGC.out)
      clear hkb hbk htl3 y3
      go_upto_region 6 with fail
      go_cut [7] from 36 to 149 (fun s7 wx => s7 = .int .i64 (-1) ∧ wc = wx)
      case first =>
        go_wp2
        go_meet
        exact ⟨rfl, rfl⟩
      case rest =>
      obtain ⟨rfl, rfl⟩ := hcut
      go_at_K
      go_step
      apply wp_seq_k
      intro _ _
      go_cut [7] from 60 to 144 (fun s7 wx => s7 = .int .i64 (badS kn r en) ∧ Bel wc wx)
      case first =>
        have hrl : r.length ≤ 1000000000 := by have := wt_ge r; have := HWT.out; simp only [wt] at this; omega
        cases hpk : pathK kn with
        | true =>
          rw [hpk] at z3
          have g2d : wc.drew.cell? ⟨G, o + 2, none⟩ = some (.slice np r.length (c - 1)) := g2
          have g3d : wc.drew.cell? ⟨G, o + 3, none⟩ = some (.int .i64 en) := g3
          have HP := Lib.hid (parse_any r (.slice np r.length (c - 1)) en wc.drew (HTL4.out.below (Below.mono (Bel.refl wc).drew (Nat.le_refl _))) (fun x hx => HOK.out x (by simp [hx])) (by have := HWT.out; simp only [wt] at this; omega) ((Bel.refl wc).drew.rul HRU3.out) (by show _ < wc.heap.size; have := heap_lt HGC3.out; omega))
          cases hps : parseS r en with
          | ok pp =>
            have HB : Hid (badS kn r en = -1) := by unfold Hid badS; rw [if_pos hpk, hps]
            clear hpk
            go_upto_region 9 with fail
            go_region_law (first
              | (go_simp; go_at_call 39; (with_reducible refine (HP.out).mono ?_); rintro e w9 hpo; unfold ParsePost at hpo; rw [hps] at hpo; obtain ⟨hb9, v9, rfl, _⟩ := hpo; have HB9 := Lib.hid hb9; clear hb9))
            all_goals
              go_wp2
              go_meet
              exact ⟨by rw [HB.out], (Bel.refl wc).drew.trans HB9.out⟩
          | error ae =>
            obtain ⟨a9, c9⟩ := ae
            obtain ⟨b9, hb9⟩ : ∃ b9, (c9 == 20) = b9 := ⟨_, rfl⟩
            have HB : Hid (badS kn r en = if b9 = true then a9 else -1) := by
              unfold Hid badS
              rw [if_pos hpk, hps]
              dsimp only
              by_cases h20 : c9 = 20
              · rw [if_pos h20, if_pos (by rw [← hb9]; simpa using h20)]
              · rw [if_neg h20, if_neg (by rw [← hb9]; simpa using h20)]
            clear hpk
            go_upto_region 9 with fail
            go_region_law (first
              | (go_simp; go_at_call 39; (with_reducible refine (HP.out).mono ?_); rintro e w9 hpo; unfold ParsePost at hpo; rw [hps] at hpo; obtain ⟨hbb, rfl⟩ := hpo; have HB9 := Lib.hid hbb; clear hbb))
            all_goals
              cases b9 with
              | true =>
                go_wp2
                go_meet
                exact ⟨by rw [HB.out]; rfl, (Bel.refl wc).drew.trans HB9.out⟩
              | false =>
                go_wp2
                go_meet
                exact ⟨by rw [HB.out]; rfl, (Bel.refl wc).drew.trans HB9.out⟩
        | false =>
          rw [hpk] at z3
          cases hdk : dashK kn with
          | true =>
            rw [hdk] at z4
            have HON := Lib.hid (only_any G o 2 r.length _ r en wc g2 g3 HTL4.out hrl)
            obtain ⟨ov, hov⟩ : ∃ ov, onlyS 2 r.length en r 0 = ov := ⟨_, rfl⟩
            have HB : Hid (badS kn r en = if ov < 0 ∧ 0 < r.length ∧ (r.length < 3 ∨ r.length % 2 = 0) then en else ov) := by unfold Hid badS; rw [if_neg (by simp [hpk]), if_pos hdk, hov]
            rw [hov] at HON
            clear hpk hdk hov
            by_cases h0 : ov < 0
            · have hd0 : decide (ov < 0) = true := decide_eq_true h0
              by_cases hp : 0 < r.length
              · by_cases h3 : r.length < 3
                · have HB2 : Hid (badS kn r en = en) := by unfold Hid; rw [HB.out, if_pos ⟨h0, hp, .inl h3⟩]
                  go_wp2_with (first
                    | (go_at_call 71; (with_reducible refine (HON.out).mono ?_); rintro e w9 ⟨hb9, rfl⟩; have g3' := hb9.cell g3; have HB9 := Lib.hid hb9; clear hb9))
                  go_meet
                  exact ⟨by rw [HB2.out], HB9.out⟩
                · by_cases he : r.length % 2 = 0
                  · have HB2 : Hid (badS kn r en = en) := by unfold Hid; rw [HB.out, if_pos ⟨h0, hp, .inr he⟩]
                    have e2 : ((r.length : Int) % 2 == 0) = true := by simp; omega
                    clear he
                    go_wp2_with (first
                      | (go_at_call 71; (with_reducible refine (HON.out).mono ?_); rintro e w9 ⟨hb9, rfl⟩; have g3' := hb9.cell g3; have HB9 := Lib.hid hb9; clear hb9))
                    go_meet
                    exact ⟨by rw [HB2.out], HB9.out⟩
                  · have HB2 : Hid (badS kn r en = ov) := by unfold Hid; rw [HB.out, if_neg (fun e => e.2.2.elim h3 he)]
                    have e2 : ((r.length : Int) % 2 == 0) = false := by simp; omega
                    clear he
                    go_wp2_with (first
                      | (go_at_call 71; (with_reducible refine (HON.out).mono ?_); rintro e w9 ⟨hb9, rfl⟩; have g3' := hb9.cell g3; have HB9 := Lib.hid hb9; clear hb9))
                    go_meet
                    exact ⟨by rw [HB2.out], HB9.out⟩
              · have HB2 : Hid (badS kn r en = ov) := by unfold Hid; rw [HB.out, if_neg (fun e => hp e.2.1)]
                go_wp2_with (first
                  | (go_at_call 71; (with_reducible refine (HON.out).mono ?_); rintro e w9 ⟨hb9, rfl⟩; have HB9 := Lib.hid hb9; clear hb9))
                go_meet
                exact ⟨by rw [HB2.out], HB9.out⟩
            · have hd0 : decide (ov < 0) = false := decide_eq_false h0
              have HB2 : Hid (badS kn r en = ov) := by unfold Hid; rw [HB.out, if_neg (fun e => h0 e.1)]
              go_wp2_with (first
                | (go_at_call 71; (with_reducible refine (HON.out).mono ?_); rintro e w9 ⟨hb9, rfl⟩; have HB9 := Lib.hid hb9; clear hb9))
              go_meet
              exact ⟨by rw [HB2.out], HB9.out⟩
          | false =>
            rw [hdk] at z4
            by_cases hw : wordsK kn = []
            · have hwv := wordsV_nil (a := ka) (b := kb) (c := kc) hw
              rw [hwv] at z2
              have HB : Hid (badS kn r en = onlyS 2 (countC kn) en r 0) := by unfold Hid badS; rw [if_neg (by simp [hpk]), if_neg (by simp [hdk]), if_neg (by simp [hw])]
              have HON := Lib.hid (only_any G o 2 (countC kn) _ r en wc g2 g3 HTL4.out hrl)
              clear hpk hdk hw hwv
              go_wp2_with (first
                | (go_at_call 71; (with_reducible refine (HON.out).mono ?_); rintro e w9 ⟨hb9, rfl⟩; have HB9 := Lib.hid hb9; clear hb9))
              go_meet
              exact ⟨by rw [HB.out], HB9.out⟩
            · obtain ⟨wg, hwv, hcell⟩ := word_cells HKB.out.2 hw
              rw [hwv] at z2
              have HON : Hid (Calls Tryd.prog 71 #[.pointer (some ⟨G, o, none⟩), .int .i64 1, .int .i64 1] wc fun e w' => Bel wc w' ∧ e = .returned (.int .i64 (onlyS 1 1 en r 0))) := only_any G o 1 1 _ r en wc g2 g3 HTL4.out hrl
              cases r with
              | nil =>
                have HB : Hid (badS kn [] en = onlyS 1 1 en [] 0) := by unfold Hid badS; rw [if_neg (by simp [hpk]), if_neg (by simp [hdk]), if_pos hw]
                rw [show ([] : List Tok).length = 0 from rfl] at g2
                clear hpk hdk hw hwv hcell
                go_upto_region 19 with (first
                  | (go_at_call 71; (with_reducible refine (HON.out).mono ?_); rintro e w9 ⟨hb9, rfl⟩; have g2' := hb9.cell g2; have HB9 := Lib.hid hb9; clear hb9))
                go_quiet (fail)
                go_wp2
                go_meet
                exact ⟨by rw [HB.out], HB9.out.drewN _⟩
              | cons t2 r2 =>
                obtain ⟨b3, o3, c3, he3, _, _, ⟨p0, p1, p2, p3⟩, _⟩ := HTL4.out.cons
                have he4 : (Value.slice np (t2 :: r2).length (c - 1)) = .slice (some ⟨b3, o3, none⟩) (r2.length + 1) c3 := he3
                rw [he4] at g2
                obtain ⟨cb, hcb⟩ : ∃ cb, Lib.containsS (((wordsK kn).map fun s => (⟨s.toArray⟩ : ByteArray)).take (wordsK kn).length) ⟨t2.s.toArray⟩ = cb := ⟨_, rfl⟩
                have hmem : cb = true ↔ t2.s ∈ wordsK kn := by
                  rw [← hcb, List.take_of_length_le (by simp), Lib.containsS_iff, List.mem_map]
                  constructor
                  · rintro ⟨s, hs, e⟩
                    have : s = t2.s := by
                      have := congrArg (fun b : ByteArray => b.data.toList) e
                      simpa using this
                    rw [← this]; exact hs
                  · intro hs
                    exact ⟨t2.s, hs, rfl⟩
                have HCN : Hid (∀ V, Bel wc V → Calls Tryd.prog 72 #[.slice (some ⟨wg, 0, none⟩) (wordsK kn).length (wordsK kn).length, .string ⟨t2.s.toArray⟩] V fun e w' => e = .returned (.bool cb) ∧ w' = V) := fun V hV => by
                  have := Tryd.slices_Contains_string wg 0 (wordsK kn).length (wordsK kn).length ((wordsK kn).map fun s => (⟨s.toArray⟩ : ByteArray)) ⟨t2.s.toArray⟩ V (by simp) (by have : (wordsK kn).length ≤ 3 := (by unfold wordsK; (repeat' split) <;> decide); omega) (fun j hj => by
                    rw [List.length_map] at hj
                    rw [Nat.zero_add, hV.cell (hcell j hj)]
                    simp [List.getD, hj])
                  rw [hcb] at this
                  exact this
                have HB : Hid (badS kn (t2 :: r2) en = if cb = true then onlyS 1 1 en (t2 :: r2) 0 else t2.place) := by
                  unfold Hid badS
                  rw [if_neg (by simp [hpk]), if_neg (by simp [hdk]), if_pos hw]
                  dsimp only
                  by_cases hm : t2.s ∈ wordsK kn
                  · rw [if_pos hm, if_pos (hmem.2 hm)]
                  · rw [if_neg hm, if_neg (fun e => hm (hmem.1 e))]
                clear hpk hdk hw hwv hcell hcb hmem he3 he4
                go_upto_region 19 with (first
                  | (go_at_call 71; (with_reducible refine (HON.out).mono ?_); rintro e w9 ⟨hb9, rfl⟩; have HB9 := Lib.hid hb9; clear hb9))
                have g2' := HB9.out.cell g2
                have z2' := HB9.out.cell z2
                have p1' := HB9.out.cell p1
                have p3' := HB9.out.cell p3
                go_quiet ((go_at_call 72; exact Calls.quiet_of_same (HCN.out _ (HB9.out.drewN _))))
                have g2q : (w9.drewN nq).cell? ⟨G, o + 2, none⟩ = some (.slice (some ⟨b3, o3, none⟩) (r2.length + 1) c3) := g2'
                have p3q : (w9.drewN nq).cell? ⟨b3, o3 + 3, none⟩ = some (.int .i64 t2.place) := p3'
                cases cb with
                | true =>
                  go_wp2
                  go_meet
                  exact ⟨by rw [HB.out]; rfl, HB9.out.drewN _⟩
                | false =>
                  go_wp2
                  go_meet
                  exact ⟨by rw [HB.out]; rfl, HB9.out.drewN _⟩
      case rest =>
        obtain ⟨rfl, hbx⟩ := hcut
        have HBX := Lib.hid hbx
        obtain ⟨bd, hbd⟩ : ∃ bd, badS kn r en = bd := ⟨_, rfl⟩
        rw [hbd] at HRD ⊢
        have HGRX : Hid (w.grownBy wc (some G)) := grown_trans (grown_trans HGR.out (bel_grown HBK.out _)) (bel_grown hbx _)
        have HGX := Lib.hid (hbx.heap HGC3.out)
        have HTX := Lib.hid (HTL3.out.below (Below.mono hbx (Nat.le_of_lt (heap_lt HGC3.out))))
        have HRDD := Lib.hid hbd
        clear hbx g0 g2 g3 z1 z2 z3 z4 hbd
        by_cases hb0 : 0 ≤ bd
        · have hrd : readC b2 (t :: r, en) = .error bd := by rw [HRD.out, if_pos hb0]
          have HRD2 := Lib.hid hrd
          have hdec : decide (0 ≤ bd) = true := decide_eq_true hb0
          clear hrd
          go_wp2
          go_ret
          exact HE.out _ _ (grown_trans (bel_grown HBK.out _) (bel_grown HBX.out _)) HRD2.out
        · have hrd : readC b2 (t :: r, en) = .ok ⟨kn, t.place, r, en⟩ := by rw [HRD.out, if_neg hb0]
          have HRD2 := Lib.hid hrd
          have hdec : decide (0 ≤ bd) = false := decide_eq_false hb0
          clear hrd
          go_wp2
          go_ret
          refine ⟨HGRX.out, ?_⟩
          rw [HRD2.out]
          exact ⟨rfl, _, HGX.out, HTX.out⟩
    · have hrd : readC first (t :: r, en) = .error t.place := by rw [readC, if_pos (.inr (by rw [HKN.out, hb2']; exact hbf))]
      have HRD := Lib.hid hrd
      clear hrd
      cases b2 with
      | true =>
        cases first with
        | true => exact absurd rfl hbf
        | false =>
          go_wp2
          go_ret
          exact HE.out _ _ (bel_grown (Bel.refl _) _) HRD.out
      | false =>
        cases first with
        | false => exact absurd rfl hbf
        | true =>
          go_wp2
          go_ret
          exact HE.out _ _ (bel_grown (Bel.refl _) _) HRD.out
end Go.Proofs.YtefajplbgmikdaaDoor
