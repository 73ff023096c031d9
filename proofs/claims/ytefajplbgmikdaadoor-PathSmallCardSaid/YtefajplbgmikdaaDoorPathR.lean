/-
  The walk of path.Parse.
-/
import Derived.Test.YtefajplbgmikdaaDoorPathQ
namespace Go.Proofs.YtefajplbgmikdaaDoor
open Go.RowKit

def preG (dn : List Sg) : Except (Int × Int) (List Sg) → Except (Int × Int) (List Sg)
  | .ok l => .ok (dn ++ l)
  | .error e => .error e
theorem preG_nil (R : Except (Int × Int) (List Sg)) : preG [] R = R := by cases R <;> rfl
theorem preG_step {ps : List Part} {k : Nat} {x : Part} {p p' : Pen} {s : Sg} {dn : List Sg} (hk : ps[k]? = some x) (hi : k < 4096) (hs : segS p x = .ok (s, p')) : preG dn (segsS (ps.drop k) k p) = preG (dn ++ [s]) (segsS (ps.drop (k + 1)) (k + 1) p') := by
  obtain ⟨hlt, he⟩ := List.getElem?_eq_some_iff.1 hk
  rw [List.drop_eq_getElem_cons hlt, he, segsS, if_neg (by omega), hs]
  simp only
  cases segsS (ps.drop (k + 1)) (k + 1) p' <;> simp [preG]
theorem preG_bad {ps : List Part} {k : Nat} {x : Part} {p : Pen} {a : Int} {dn : List Sg} (hk : ps[k]? = some x) (hi : k < 4096) (hs : segS p x = .error a) : preG dn (segsS (ps.drop k) k p) = .error (a, 21) := by
  obtain ⟨hlt, he⟩ := List.getElem?_eq_some_iff.1 hk
  rw [List.drop_eq_getElem_cons hlt, he, segsS, if_neg (by omega), hs]
  rfl
theorem preG_many {ps : List Part} {k : Nat} {x : Part} {p : Pen} {dn : List Sg} (hk : ps[k]? = some x) (hi : 4096 ≤ k) : preG dn (segsS (ps.drop k) k p) = .error (x.place, 22) := by
  obtain ⟨hlt, he⟩ := List.getElem?_eq_some_iff.1 hk
  rw [List.drop_eq_getElem_cons hlt, he, segsS, if_pos hi]
  rfl

theorem Bel.drewN {w0 w : World} (h : Bel w0 w) (n : Nat) : Bel w0 (w.drewN n) := ⟨h.os, h.tape, h.output, h.size, h.block⟩
theorem SRow.form {w : World} {base : Nat} {v : Value} {l : List Sg} (h : SRow w base v l) : ∃ pp pc, v = .slice pp l.length pc ∧ l.length ≤ pc := by
  obtain ⟨_, h0 | ⟨g, cap, cur, e, _, _, hc, _⟩⟩ := h
  · exact ⟨none, 0, by rw [h0.1, h0.2], by omega⟩
  · exact ⟨_, cap, e, hc⟩
theorem PRow.form {w : World} {r : Nat} {pv : Value} {ps : List Part} (h : PRow w r pv ps) : ∃ pp pc, pv = .slice pp ps.length pc ∧ ps.length ≤ pc := by
  obtain ⟨qs, _, ⟨_, h0 | ⟨g, cap, cur, e, _, _, hc, _⟩⟩, _⟩ := h
  · exact ⟨none, 0, by rw [h0.1, h0.2], by omega⟩
  · exact ⟨_, cap, e, hc⟩
theorem PRow.step {w w2 : World} {r : Nat} {pv : Value} {ps : List Part} (h : PRow w r pv ps) (hb : Bel w w2) : PRow w2 r pv ps := by
  obtain ⟨qs, hq, ho, hn⟩ := h
  exact ⟨qs, hq, hb.own ho, fun q hq => hb.own (hn q hq)⟩
set_option maxHeartbeats 4000000 in
set_option maxRecDepth 100000 in
theorem parse_any (l : List Tok) (lv : Value) (en : Int) (w : World) (hl : TokRow w w.heap.size lv l) (hp : ∀ t ∈ l, TkOk t) (hwt : wt l ≤ 800000000) (hr : Rul w) (hg : 2 < w.heap.size) :
    Calls Tryd.prog 39 #[lv, .int .i64 en] w (ParsePost w (parseS l en)) := by
  have hb1 : Bel w (w.alloc (.cells #[lv, .int .i64 en, .slice none 0 0, .pointer none] 114)) := (Bel.refl w).alloc _
  have hst : St (w.alloc (.cells #[lv, .int .i64 en, .slice none 0 0, .pointer none] 114)) w.heap.size lv en (.slice none 0 0) l [] :=
    ⟨heap_alloc_new _ _, hl.below (Below.mono hb1 (Nat.le_refl _)), [], rfl, World.ownsRow_nil _ _ _ _, by simp⟩
  have hread := read_any en w.heap.size lv (.slice none 0 0) l _ hwt hp (hb1.rul hr) hst hg
  have HREAD := Lib.hid hread
  have HB1 := Lib.hid hb1
  have HPO : Hid (∀ ps, readAll en l = .ok ps → ∀ x ∈ ps, PartOk TkOk x) := fun ps h => by
    unfold readAll at h
    split at h
    · cases h
    · exact read_ok h hp (by simp)
  obtain ⟨lp, lc, rfl, _⟩ := hl
  clear hread hb1 hst hr
  go_enter Tryd.func39, Tryd.ntmps39
  cases hra : readAll en l with
  | error a =>
    have HPS : Hid (parseS l en = .error (a, 20)) := by unfold Hid parseS; rw [hra]
    rw [hra] at HREAD
    clear hra
    go_wp2_with (first
      | (go_at_call 62; (with_reducible refine (HREAD.out).mono ?_); rintro e w2 ⟨rfl, hb2, hk2, lv2, pv2, bb, hrd2, hlt2, hbb2⟩; have HB2 := Lib.hid hb2; (obtain ⟨⟨z0, z1, z2, z3⟩, zf⟩ := hrd2.all); have y0 := heap_cell hbb2 0; have y1 := heap_cell hbb2 1; clear hb2 hk2 hrd2 hbb2))
    go_quiet (fail)
    have HE : Hid (ParsePost w (parseS l en) (.returned (.tuple #[.slice none 0 0, .int .i64 a, .int .i64 20])) (w2.drewN nq)) := by
      unfold Hid
      rw [HPS.out]
      exact ⟨(HB1.out.at (Nat.le_refl _) HB2.out).drewN _, rfl⟩
    go_wp2
    exact bodyPost_ret (v := .tuple #[.slice none 0 0, .int .i64 a, .int .i64 20]) (by simp [results, Tryd.results39, go_sem]) rfl HE.out
  | ok ps =>
    have HPS : Hid (parseS l en = segsS ps 0 pen0) := by unfold Hid parseS; rw [hra]
    have hpo := HPO.out ps hra
    rw [hra] at HREAD
    clear hra HPO
    go_wp2_with (first
      | (go_at_call 62; (with_reducible refine (HREAD.out).mono ?_); rintro e w2 ⟨rfl, hb2, hk2, lv2, pv2, hrd2, hpr2⟩; have HB2 : Hid (Bel w w2) := HB1.out.at (Nat.le_refl _) hb2; have HPR2 := Lib.hid hpr2; (obtain ⟨⟨z0, z1, z2, z3⟩, zf⟩ := hrd2.all); have HRD2 := Lib.hid hrd2; (obtain ⟨pp, pc, rfl, hpc⟩ := hpr2.form); have z2' := fun o => heap_cell (heap_push_of hrd2 o) 2; clear hb2 hk2 hrd2 hpr2))
    have HW3 : Hid (Bel w2 (w2.alloc (.cells #[.int .i64 0, .int .i64 0, .int .i64 0, .int .i64 0, .int .i64 0, .int .i64 0, .int .i64 0, .int .i64 0, .int .i64 0, .int .i64 0, .int .i64 0, .int .i64 0] 119))) := (Bel.refl w2).alloc _
    have HPN0 : Hid (Pn (w2.alloc (.cells #[.int .i64 0, .int .i64 0, .int .i64 0, .int .i64 0, .int .i64 0, .int .i64 0, .int .i64 0, .int .i64 0, .int .i64 0, .int .i64 0, .int .i64 0, .int .i64 0] 119)) w2.heap.size pen0) := heap_alloc_new _ _
    have HQL : Hid (w2.heap.size < (w2.alloc (.cells #[.int .i64 0, .int .i64 0, .int .i64 0, .int .i64 0, .int .i64 0, .int .i64 0, .int .i64 0, .int .i64 0, .int .i64 0, .int .i64 0, .int .i64 0, .int .i64 0] 119)).heap.size) := by unfold Hid; simp
    generalize w2.alloc (.cells #[.int .i64 0, .int .i64 0, .int .i64 0, .int .i64 0, .int .i64 0, .int .i64 0, .int .i64 0, .int .i64 0, .int .i64 0, .int .i64 0, .int .i64 0, .int .i64 0] 119) = w3 at HW3 HPN0 HQL ⊢
    obtain ⟨q, hq⟩ : ∃ q, w2.heap.size = q := ⟨_, rfl⟩
    rw [hq] at HPN0 HQL ⊢
    have HQ := Lib.hid hq
    clear hq z0 z1 z2 z3 zf z2'
    go_loopg [9, 46] ps.length (fun gf s9 i wx => ∃ (k : Nat) (dn : List Sg) (p : Pen), i = .int .i64 k ∧ k ≤ ps.length ∧ ps.length ≤ k + gf ∧ k ≤ 4096 ∧ dn.length = k ∧ segsS ps 0 pen0 = preG dn (segsS (ps.drop k) k p) ∧ PenOk p ∧ Pn wx q p ∧ SRow wx (q + 1) s9 dn ∧ (∀ s ∈ dn, s.v.length = 6) ∧ Below q w3 wx ∧ q < wx.heap.size)
    case atStart => exact ⟨0, [], pen0, rfl, Nat.zero_le _, by omega, by omega, rfl, (preG_nil _).symm, pen0_ok, HPN0.out, World.ownsRow_nil _ _ _ _, by simp, Below.refl _ _, HQL.out⟩
    case round =>
      obtain ⟨k, dn, p, rfl, hkl, hkg, hk96, hdn, hsg, hpk, hpn, hsr, hd6, hbl, hql⟩ := hrel
      have HSG := Lib.hid hsg
      have HPK := Lib.hid hpk
      have HPN := Lib.hid hpn
      have HSR := Lib.hid hsr
      have HD6 := Lib.hid hd6
      have HBL := Lib.hid hbl
      clear hsg hpk hpn hsr hd6 hbl
      by_cases hk : k < ps.length
      · obtain ⟨x, hx⟩ : ∃ x, ps[k]? = some x := ⟨_, List.getElem?_eq_getElem hk⟩
        obtain ⟨pg, pcap, nv, hpe, hpg1, hpg2, hnr, ⟨q0, q1, q2, q3, q4, q5⟩⟩ := HPR2.out.at hx
        simp only [Value.slice.injEq] at hpe
        obtain ⟨rfl, _, rfl⟩ := hpe
        have hmx : dn.length + 1 ≤ maxLen := by unfold maxLen; omega
        have hmb : (dn.length + 1) * 64 ≤ 140737488355328 := by omega
        have hlt1 : pg < q := by have := HQ.out; omega
        have hlt2 : pg < w3.heap.size := by have := HQL.out; omega
        replace q0 := (HBL.out.cell (p := ⟨pg, k * 6, none⟩) hlt1).trans (HW3.out.cell q0)
        replace q1 := (HBL.out.cell (p := ⟨pg, k * 6 + 1, none⟩) hlt1).trans (HW3.out.cell q1)
        replace q2 := (HBL.out.cell (p := ⟨pg, k * 6 + 2, none⟩) hlt1).trans (HW3.out.cell q2)
        replace q3 := (HBL.out.cell (p := ⟨pg, k * 6 + 3, none⟩) hlt1).trans (HW3.out.cell q3)
        replace q4 := (HBL.out.cell (p := ⟨pg, k * 6 + 4, none⟩) hlt1).trans (HW3.out.cell q4)
        replace q5 := (HBL.out.cell (p := ⟨pg, k * 6 + 5, none⟩) hlt1).trans (HW3.out.cell q5)
        have HPX := Lib.hid (hpo x (List.mem_of_getElem? hx))
        have HX := Lib.hid hx
        have HNR : Hid (TokRow wr wr.heap.size nv x.nums) := (((hnr.below (Below.mono HW3.out (Nat.le_refl _))).mono (by have := HQ.out; omega : w2.heap.size ≤ q)).below HBL.out).mono (by omega)
        obtain ⟨np, nc, rfl, _⟩ := hnr
        clear hx
        obtain ⟨⟨nm, ct, kn⟩, sm, pl, ns⟩ := x
        dsimp only at q0 q1 q2 q3 q4 q5 HNR
        obtain ⟨V, hV⟩ : ∃ V, wr.alloc (.cells #[.int .u8 nm, .int .i64 ct, .int .i64 kn, .bool sm, .int .i64 pl, .slice np ns.length nc] 123) = V := ⟨_, rfl⟩
        have hWV : Bel wr V := hV ▸ (Bel.refl wr).alloc _
        have hTV : V.heap[wr.heap.size]? = some (.cells #[.int .u8 nm, .int .i64 ct, .int .i64 kn, .bool sm, .int .i64 pl, .slice np ns.length nc] 123 (0, 0)) := hV ▸ heap_alloc_new _ _
        have HWV := Lib.hid hWV
        have HTV := Lib.hid hTV
        clear hWV hTV
        have y0 : V.cell? ⟨wr.heap.size, 0, none⟩ = some (.int .u8 nm) := by rw [heap_cell HTV.out]; rfl
        have y1 : V.cell? ⟨wr.heap.size, 1, none⟩ = some (.int .i64 ct) := by rw [heap_cell HTV.out]; rfl
        have y2 : V.cell? ⟨wr.heap.size, 2, none⟩ = some (.int .i64 kn) := by rw [heap_cell HTV.out]; rfl
        have y3 : V.cell? ⟨wr.heap.size, 3, none⟩ = some (.bool sm) := by rw [heap_cell HTV.out]; rfl
        have y4 : V.cell? ⟨wr.heap.size, 4, none⟩ = some (.int .i64 pl) := by rw [heap_cell HTV.out]; rfl
        have y5 : V.cell? ⟨wr.heap.size, 5, none⟩ = some (.slice np ns.length nc) := by rw [heap_cell HTV.out]; rfl
        have hseg : Calls Tryd.prog 63 #[.pointer (some ⟨q, 0, none⟩), .agg #[.int .u8 nm, .int .i64 ct, .int .i64 kn, .bool sm, .int .i64 pl, .slice np ns.length nc]] V (SegPost p q V (segS p ⟨⟨nm, ct, kn⟩, sm, pl, ns⟩)) :=
          seg_any p HPK.out ⟨⟨nm, ct, kn⟩, sm, pl, ns⟩ HPX.out (.slice np ns.length nc) q V (HWV.out.heap HPN.out) ((HNR.out.below (Below.mono HWV.out (Nat.le_refl _))).mono HWV.out.size)
        have HSEG := Lib.hid hseg
        clear hseg
        by_cases h96 : k < 4096
        · have h96' : decide ((4096 : Int) ≤ (k : Int)) = false := decide_eq_false (by omega)
          obtain ⟨gk', rfl⟩ : ∃ g, gk = g + 1 := ⟨gk - 1, by omega⟩
          cases hS : segS p ⟨⟨nm, ct, kn⟩, sm, pl, ns⟩ with
          | error a =>
            have HR : Hid (parseS l en = .error (a, 21)) := by unfold Hid; rw [HPS.out, HSG.out, preG_bad HX.out h96 hS]
            rw [hS] at HSEG
            clear hS
            go_upto_region 10 with fail
            (try rw [hV])
            clear hV
            go_wp2_with (first
              | (go_at_call 63; (with_reducible refine (HSEG.out).mono ?_); rintro e w4 ⟨hb4, hk4, e0, e1, e2, e3, e4, e5, e6, e7, b4, rfl, hw4⟩; have HB4 := Lib.hid hb4; have HK4 := Lib.hid hk4; have HW4 := Lib.hid hw4; have z0 := fun o => heap_cell (heap_push_of hw4 o) 0; have z1 := fun o => heap_cell (heap_push_of hw4 o) 1; clear hb4 hk4 hw4))
            go_quiet (fail)
            have HE : Hid (ParsePost w (parseS l en) (.returned (.tuple #[.slice none 0 0, .int .i64 a, .int .i64 21])) ((w4.alloc (.cells #[.int .i64 e0, .int .i64 e1, .int .i64 e2, .int .i64 e3, .int .i64 e4, .int .i64 e5, .int .i64 e6, .int .i64 e7] 36)).drewN nq)) := by
              unfold Hid
              rw [HR.out]
              exact ⟨((((HB2.out.trans HW3.out).at (by have := HB2.out.size; have := HQ.out; omega) HBL.out).trans HWV.out).at (by have := HB2.out.size; have := HQ.out; omega) HB4.out).trans (((Bel.refl w4).alloc _).drewN _), rfl⟩
            go_wp2
            exact bodyPost_ret (v := .tuple #[.slice none 0 0, .int .i64 a, .int .i64 21]) (by simp [results, Tryd.results39, go_sem]) rfl HE.out
          | ok sp =>
            obtain ⟨s, p'⟩ := sp
            have hso := seg_ok HPK.out HPX.out hS
            have HNX : Hid (segsS ps 0 pen0 = preG (dn ++ [s]) (segsS (ps.drop (k + 1)) (k + 1) p')) := by unfold Hid; rw [HSG.out, preG_step HX.out h96 hS]
            rw [hS] at HSEG
            have HSO := Lib.hid hso
            clear hS hso
            obtain ⟨sk, sv, sw⟩ := s
            have h6 := HSO.out.2.1.1
            dsimp only at h6
            obtain ⟨v0, v1, v2, v3, v4, v5, rfl⟩ := six h6
            go_upto_region 10 with fail
            (try rw [hV])
            clear hV
            go_wp2_with (first
              | (go_at_call 63; (with_reducible refine (HSEG.out).mono ?_); rintro e w4 ⟨hb4, hk4, rfl, hp4⟩; have HB4 := Lib.hid hb4; have HK4 := Lib.hid hk4; have HP4 := Lib.hid hp4; have HSR4 : Hid (SRow w4 (q + 1) u9 dn) := own_keep (HWV.out.own HSR.out) (fun j hj => hk4 j (Nat.lt_of_lt_of_le (HSR.out.lt j hj).2 HWV.out.size) (by have := (HSR.out.lt j hj).1; omega)); have hq4 : q + 1 ≤ w4.heap.size := Nat.le_trans (Nat.le_trans hql HWV.out.size) hb4.size; simp only [sgC, List.map_cons, List.map_nil, List.cons_append, List.nil_append]; clear hb4 hk4 hp4)
              | (at_builtin; (refine wpList_push rfl (.tmp 71) (.tmp 73) 22 rfl (q + 1) 36 _ 8 64 Tryd.underlying22 infoSeg rfl (by decide) u9 dn.length (dn.flatMap sgC) rfl (SRow.bel HSR4.out ((Bel.refl w4).alloc _)) _ _ _ rfl (by simp) rfl (by simp [Value.oneCell']) hmx hmb (by simp; omega) ?_); intro v5' w5 hown5 hg5 _; have HO5 := Lib.hid hown5; have HG5 := Lib.hid hg5; clear hown5 hg5))
            have hgr : Below q w4 w5 := (Below.refl q w4).alloc (by omega) _ |>.grown HG5.out (by simp; omega) (fun j hj => by have := (HSR4.out.lt j hj).1; omega)
            have hkq : w5.heap[q]? = w4.heap[q]? := (HG5.out.block q (by simp; omega) (fun e => by have := (HSR4.out.lt q e.symm).1; omega)).trans (Below.heap_alloc _ _ _ (by omega))
            have HP5 : Hid (Pn w5 q p') := hkq.trans HP4.out
            have HB5 : Hid (Below q w3 w5) := (HBL.out.trans (Below.mono HWV.out (by omega))).trans (HB4.out.trans hgr)
            have hq5 : q < w5.heap.size := by have := hgr.size; omega
            have HS5 : Hid (SRow w5 (q + 1) v5' (dn ++ [⟨sk, [v0, v1, v2, v3, v4, v5], sw⟩])) := by
              unfold Hid SRow
              rw [List.length_append, List.flatMap_append]
              exact HO5.out
            clear hgr hkq
            go_roundg gk'
            case measure => omega
            case rel => exact ⟨k + 1, dn ++ [⟨sk, [v0, v1, v2, v3, v4, v5], sw⟩], p', rfl, by omega, by omega, by omega, by simp [hdn], HNX.out, HSO.out.1, HP5.out, HS5.out, fun s hs => (List.mem_append.1 hs).elim (HD6.out s) (fun h => by rw [List.mem_singleton.1 h]; rfl), HB5.out, hq5⟩
        · have h96' : decide ((4096 : Int) ≤ (k : Int)) = true := decide_eq_true (by omega)
          have HR : Hid (parseS l en = .error (pl, 22)) := by unfold Hid; rw [HPS.out, HSG.out, preG_many HX.out (by omega)]
          go_upto_region 10 with fail
          (try rw [hV])
          clear hV
          go_wp2_with fail
          go_quiet (fail)
          have HE : Hid (ParsePost w (parseS l en) (.returned (.tuple #[.slice none 0 0, .int .i64 pl, .int .i64 22])) (V.drewN nq)) := by
            unfold Hid
            rw [HR.out]
            exact ⟨((HB2.out.trans HW3.out).at (by have := HB2.out.size; have := HQ.out; omega) HBL.out).trans (HWV.out.drewN _), rfl⟩
          go_wp2
          exact bodyPost_ret (v := .tuple #[.slice none 0 0, .int .i64 pl, .int .i64 22]) (by simp [results, Tryd.results39, go_sem]) rfl HE.out
      · obtain rfl : k = ps.length := by omega
        have HFIN : Hid (parseS l en = .ok dn) := by
          unfold Hid
          rw [HPS.out, HSG.out, List.drop_length]
          simp [segsS, preG]
        have HE : Hid (ParsePost w (parseS l en) (.returned (.tuple #[u9, .int .i64 0, .int .i64 0])) wr) := by
          unfold Hid
          rw [HFIN.out]
          exact ⟨(HB2.out.trans HW3.out).at (by have := HB2.out.size; have := HQ.out; omega) HBL.out, u9, rfl, own_base HSR.out (by have := HB2.out.size; have := HQ.out; omega)⟩
        obtain ⟨op, oc, rfl, _⟩ := SRow.form HSR.out
        go_wp2
        exact bodyPost_ret (v := .tuple #[.slice op dn.length oc, .int .i64 0, .int .i64 0]) (by simp [results, Tryd.results39, go_sem]) rfl HE.out
end Go.Proofs.YtefajplbgmikdaaDoor
