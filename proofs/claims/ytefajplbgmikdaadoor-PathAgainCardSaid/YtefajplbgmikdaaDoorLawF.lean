/-
  The walk of the law PathAgain.
-/
import Derived.Test.YtefajplbgmikdaaDoorLawE
import Derived.StillTailTactics
namespace Go.Proofs.YtefajplbgmikdaaDoor
open Go.RowKit

theorem agB_cap (a b c d e f : Int) : render (agA 77 a b c d e f) = [77] ++ Lib.itoa a ++ [32] ++ Lib.itoa b ++ [32] ++ Lib.itoa c ++ [32] ++ Lib.itoa d ++ [44] ++ Lib.itoa e ++ [32] ++ Lib.itoa f ∧ render (agB 77 76 a b c d e f) = [77] ++ Lib.itoa a ++ [32] ++ Lib.itoa b ++ [76] ++ Lib.itoa c ++ [32] ++ Lib.itoa d ++ [76] ++ Lib.itoa e ++ [32] ++ Lib.itoa f ∧ render (agC 77 76 a b c d e f) = [77] ++ Lib.itoa a ++ [32] ++ Lib.itoa b ++ [76] ++ Lib.itoa c ++ [32] ++ Lib.itoa d ++ [32] ++ Lib.itoa e ++ [32] ++ Lib.itoa f ∧ render (agX 77 72 86 a b c d) = [77] ++ Lib.itoa a ++ [32] ++ Lib.itoa b ++ [72] ++ Lib.itoa c ++ [86] ++ Lib.itoa d := by
  simp [render, agA, agB, agC, agX, pcB]
theorem agB_small (a b c d e f : Int) : render (agA 109 a b c d e f) = [109] ++ Lib.itoa a ++ [32] ++ Lib.itoa b ++ [32] ++ Lib.itoa c ++ [32] ++ Lib.itoa d ++ [44] ++ Lib.itoa e ++ [32] ++ Lib.itoa f ∧ render (agB 109 108 a b c d e f) = [109] ++ Lib.itoa a ++ [32] ++ Lib.itoa b ++ [108] ++ Lib.itoa c ++ [32] ++ Lib.itoa d ++ [108] ++ Lib.itoa e ++ [32] ++ Lib.itoa f ∧ render (agC 109 108 a b c d e f) = [109] ++ Lib.itoa a ++ [32] ++ Lib.itoa b ++ [108] ++ Lib.itoa c ++ [32] ++ Lib.itoa d ++ [32] ++ Lib.itoa e ++ [32] ++ Lib.itoa f ∧ render (agX 109 104 118 a b c d) = [109] ++ Lib.itoa a ++ [32] ++ Lib.itoa b ++ [104] ++ Lib.itoa c ++ [118] ++ Lib.itoa d := by
  simp [render, agA, agB, agC, agX, pcB]

set_option maxHeartbeats 8000000 in
set_option maxRecDepth 100000 in
theorem pathAgain_any (a b c d e f : Int) (small : Bool) (ha : dOk a) (hb : dOk b) (hc : dOk c) (hd : dOk d) (he : dOk e) (hf : dOk f) (w : World) (hw : Base w) :
    Calls Tryd.prog 7 #[.agg #[.int .i16 a, .int .i16 b, .int .i16 c, .int .i16 d, .int .i16 e, .int .i16 f], .bool small] w fun e w' => e = .returned (.bool true) ∧ Bel w w' := by
  have HW := Lib.hid hw
  have HWK : Hid (∀ V, Bel w V → _) := fun V h => wakes_base (hw.on h)
  have HALL : Hid (∀ x ∈ [a, b, c, d, e, f], dOk x) := by
    intro x hx
    simp only [List.mem_cons, List.not_mem_nil, or_false] at hx
    rcases hx with rfl | rfl | rfl | rfl | rfl | rfl <;> assumption
  have HN0 : Hid (Bel w ((w.alloc (.cells #[.int .i16 a, .int .i16 b, .int .i16 c, .int .i16 d, .int .i16 e, .int .i16 f] 46)).alloc (.cells #[.string ⟨#[]⟩, .string ⟨#[]⟩, .string ⟨#[]⟩, .string ⟨#[]⟩, .string ⟨#[]⟩, .string ⟨#[]⟩] 47))) := ((Bel.refl w).alloc _).alloc _
  have HN1 : Hid (((w.alloc (.cells #[.int .i16 a, .int .i16 b, .int .i16 c, .int .i16 d, .int .i16 e, .int .i16 f] 46)).alloc (.cells #[.string ⟨#[]⟩, .string ⟨#[]⟩, .string ⟨#[]⟩, .string ⟨#[]⟩, .string ⟨#[]⟩, .string ⟨#[]⟩] 47)).heap[w.heap.size]? = _) := heap_push_of (heap_alloc_new _ _) _
  have hn2 := heap_alloc_new (w.alloc (.cells #[.int .i16 a, .int .i16 b, .int .i16 c, .int .i16 d, .int .i16 e, .int .i16 f] 46)) (.cells #[.string ⟨#[]⟩, .string ⟨#[]⟩, .string ⟨#[]⟩, .string ⟨#[]⟩, .string ⟨#[]⟩, .string ⟨#[]⟩] 47)
  have hz : (w.alloc (.cells #[.int .i16 a, .int .i16 b, .int .i16 c, .int .i16 d, .int .i16 e, .int .i16 f] 46)).heap.size = w.heap.size + 1 := by simp
  rw [hz] at hn2
  have HN2 := Lib.hid hn2
  clear hn2 hz hw
  go_enter Tryd.func7, Tryd.ntmps7
  go_upto_region 2 with fail
  generalize ((w.alloc (.cells #[.int .i16 a, .int .i16 b, .int .i16 c, .int .i16 d, .int .i16 e, .int .i16 f] 46)).alloc (.cells #[.string ⟨#[]⟩, .string ⟨#[]⟩, .string ⟨#[]⟩, .string ⟨#[]⟩, .string ⟨#[]⟩, .string ⟨#[]⟩] 47)) = w0 at HN0 HN1 HN2 ⊢
  obtain ⟨N, hN⟩ : ∃ N, w.heap.size = N := ⟨_, rfl⟩
  rw [hN] at HN1 HN2 ⊢
  have HNN : Hid (w.heap.size ≤ N) := Nat.le_of_eq hN
  clear hN
  go_wp2_with fail
  go_loopg [6] 6 (fun gf i wx => ∃ k : Nat, i = .int .i64 k ∧ k ≤ 6 ∧ 6 ≤ k + gf ∧ Bel w wx ∧ wx.heap[N]? = some (.cells #[.int .i16 a, .int .i16 b, .int .i16 c, .int .i16 d, .int .i16 e, .int .i16 f] 46 (0, 0)) ∧ wx.heap[N + 1]? = some (.cells (decC [a, b, c, d, e, f] k).toArray 47 (0, 0)))
  case atStart => exact ⟨0, rfl, by omega, by omega, HN0.out, HN1.out, HN2.out⟩
  case round =>
    obtain ⟨k, rfl, hk8, hkg, hbl, hn, hdd⟩ := hrel
    have HB := Lib.hid hbl
    have HN := Lib.hid hn
    have HD := Lib.hid hdd
    clear hbl hn hdd
    by_cases hlt : k < 6
    · obtain ⟨gk', rfl⟩ : ∃ g, gk = g + 1 := ⟨gk - 1, by omega⟩
      obtain ⟨x, hx⟩ : ∃ x, [a, b, c, d, e, f][k]? = some x := ⟨_, List.getElem?_eq_getElem (by simpa using hlt)⟩
      have hdx := HALL.out x (List.mem_of_getElem? hx)
      unfold dOk at hdx
      have hxc : wr.cell? ⟨N, k, none⟩ = some (.int .i16 x) := by
        rw [heap_cell HN.out]
        have hj : k = 0 ∨ k = 1 ∨ k = 2 ∨ k = 3 ∨ k = 4 ∨ k = 5 := by omega
        rcases hj with rfl | rfl | rfl | rfl | rfl | rfl <;> (simp at hx; subst hx; rfl)
      have hwx : IntKind.i64.wrap x = x := IntWalk.i64_in x (by omega)
      have hdec := fun V => lawdec_any x (by omega) V
      have HDEC := Lib.hid hdec
      have HST : Hid ((decC [a, b, c, d, e, f] k).toArray.setIfInBounds k (strV (Lib.itoa x)) = (decC [a, b, c, d, e, f] (k + 1)).toArray) := decC_set _ k x hx
      have HAT : Hid ((decC [a, b, c, d, e, f] k).toArray[k]? = some (.string ⟨#[]⟩)) := decC_at _ k (by simpa using hlt)
      clear hx hdec
      go_wp2_with (first
        | (go_at_call 19; (with_reducible refine (HDEC.out _).mono ?_); rintro e w2 ⟨rfl, hb2⟩; have HB2 := Lib.hid (HB.out.trans hb2); have HNB := Lib.hid (hb2.heap HN.out); have HD2 := Lib.hid (hb2.heap HD.out); have dc := (heap_cell HD2.out k).trans HAT.out; have df := heap_frozen HD2.out k; clear hb2))
      go_roundg gk'
      case measure => omega
      case rel => exact ⟨k + 1, rfl, by omega, by omega, HB2.out.set (by have := HNN.out; show _ ≤ N + 1; omega) _, (Below.heap_setCell _ _ _ _ (by show N ≠ N + 1; omega)).trans HNB.out, by rw [← HST.out]; exact heap_set HD2.out k _⟩
    · obtain rfl : k = 6 := by omega
      have hd8 : decC [a, b, c, d, e, f] 6 = [strV (Lib.itoa a), strV (Lib.itoa b), strV (Lib.itoa c), strV (Lib.itoa d), strV (Lib.itoa e), strV (Lib.itoa f)] := rfl
      rw [hd8] at HD
      unfold strV at HD
      obtain ⟨qa, hqa⟩ : ∃ z : ByteArray, (⟨(Lib.itoa a).toArray⟩ : ByteArray) = z := ⟨_, rfl⟩
      obtain ⟨qb, hqb⟩ : ∃ z : ByteArray, (⟨(Lib.itoa b).toArray⟩ : ByteArray) = z := ⟨_, rfl⟩
      obtain ⟨qc, hqc⟩ : ∃ z : ByteArray, (⟨(Lib.itoa c).toArray⟩ : ByteArray) = z := ⟨_, rfl⟩
      obtain ⟨qd, hqd⟩ : ∃ z : ByteArray, (⟨(Lib.itoa d).toArray⟩ : ByteArray) = z := ⟨_, rfl⟩
      obtain ⟨qe, hqe⟩ : ∃ z : ByteArray, (⟨(Lib.itoa e).toArray⟩ : ByteArray) = z := ⟨_, rfl⟩
      obtain ⟨qf, hqf⟩ : ∃ z : ByteArray, (⟨(Lib.itoa f).toArray⟩ : ByteArray) = z := ⟨_, rfl⟩
      rw [hqa, hqb, hqc, hqd, hqe, hqf] at HD
      have la : qa.data.toList = Lib.itoa a := by rw [← hqa]
      have za : qa.size ≤ 21 := by rw [← hqa]; exact dec_len (HALL.out a (by simp))
      have ea : wr.cell? ⟨N + 1, 0, none⟩ = some (.string qa) := by rw [heap_cell HD.out]; rfl
      have lb : qb.data.toList = Lib.itoa b := by rw [← hqb]
      have zb : qb.size ≤ 21 := by rw [← hqb]; exact dec_len (HALL.out b (by simp))
      have eb : wr.cell? ⟨N + 1, 1, none⟩ = some (.string qb) := by rw [heap_cell HD.out]; rfl
      have lc : qc.data.toList = Lib.itoa c := by rw [← hqc]
      have zc : qc.size ≤ 21 := by rw [← hqc]; exact dec_len (HALL.out c (by simp))
      have ec : wr.cell? ⟨N + 1, 2, none⟩ = some (.string qc) := by rw [heap_cell HD.out]; rfl
      have ld : qd.data.toList = Lib.itoa d := by rw [← hqd]
      have zd : qd.size ≤ 21 := by rw [← hqd]; exact dec_len (HALL.out d (by simp))
      have ed : wr.cell? ⟨N + 1, 3, none⟩ = some (.string qd) := by rw [heap_cell HD.out]; rfl
      have le : qe.data.toList = Lib.itoa e := by rw [← hqe]
      have ze : qe.size ≤ 21 := by rw [← hqe]; exact dec_len (HALL.out e (by simp))
      have ee : wr.cell? ⟨N + 1, 4, none⟩ = some (.string qe) := by rw [heap_cell HD.out]; rfl
      have lf : qf.data.toList = Lib.itoa f := by rw [← hqf]
      have zf : qf.size ≤ 21 := by rw [← hqf]; exact dec_len (HALL.out f (by simp))
      have ef : wr.cell? ⟨N + 1, 5, none⟩ = some (.string qf) := by rw [heap_cell HD.out]; rfl
      clear hqa hqb hqc hqd hqe hqf hd8
      have c0 : wr.cell? ⟨N, 0, none⟩ = some (.int .i16 a) := by rw [heap_cell HN.out]; rfl
      have c1 : wr.cell? ⟨N, 1, none⟩ = some (.int .i16 b) := by rw [heap_cell HN.out]; rfl
      have c2 : wr.cell? ⟨N, 2, none⟩ = some (.int .i16 c) := by rw [heap_cell HN.out]; rfl
      have c3 : wr.cell? ⟨N, 3, none⟩ = some (.int .i16 d) := by rw [heap_cell HN.out]; rfl
      have dl := dec_len ha
      have dl := dec_len hb
      have dl := dec_len hc
      have dl := dec_len hd
      have dl := dec_len he
      have dl := dec_len hf
      cases small with
      | false =>
        have hT := again_cap ha hb hc hd he hf
        have hX := lines_cap ha hb hc hd
        have hBy := agB_cap a b c d e f
        rw [hBy.1, hBy.2.1, hBy.2.2.1] at hT
        rw [hBy.2.2.2] at hX
        obtain ⟨s0, s1, s2, hA, hB', hC⟩ := hT
        obtain ⟨t0, t1, t2, hXo, hx1, hy1, hx2, hy2⟩ := hX
        have h6 : ∀ s ∈ [s0, s1, s2], s.v.length = 6 := fun s hs => ((of_back hA).2.1 s hs).1
        have h7 : ∀ s ∈ [t0, t1, t2], s.v.length = 6 := fun s hs => ((of_back hXo).2.1 s hs).1
        have HOA : Hid (∀ (sb : ByteArray) (V : World), sb.data.toList = [77] ++ Lib.itoa a ++ [32] ++ Lib.itoa b ++ [32] ++ Lib.itoa c ++ [32] ++ Lib.itoa d ++ [44] ++ Lib.itoa e ++ [32] ++ Lib.itoa f → Bel w V → _) := fun sb V hs hV => of_bytes hA (by simp; omega) HW.out sb V hs hV
        have HOB : Hid (∀ (sb : ByteArray) (V : World), sb.data.toList = [77] ++ Lib.itoa a ++ [32] ++ Lib.itoa b ++ [76] ++ Lib.itoa c ++ [32] ++ Lib.itoa d ++ [76] ++ Lib.itoa e ++ [32] ++ Lib.itoa f → Bel w V → _) := fun sb V hs hV => of_bytes hB' (by simp; omega) HW.out sb V hs hV
        have HOC : Hid (∀ (sb : ByteArray) (V : World), sb.data.toList = [77] ++ Lib.itoa a ++ [32] ++ Lib.itoa b ++ [76] ++ Lib.itoa c ++ [32] ++ Lib.itoa d ++ [32] ++ Lib.itoa e ++ [32] ++ Lib.itoa f → Bel w V → _) := fun sb V hs hV => of_bytes hC (by simp; omega) HW.out sb V hs hV
        have HOX : Hid (∀ (sb : ByteArray) (V : World), sb.data.toList = [77] ++ Lib.itoa a ++ [32] ++ Lib.itoa b ++ [72] ++ Lib.itoa c ++ [86] ++ Lib.itoa d → Bel w V → _) := fun sb V hs hV => of_bytes hXo (by simp; omega) HW.out sb V hs hV
        have HSE : Hid (∀ V v1 v2, SegRow V V.heap.size v1 [s0, s1, s2] → SegRow V V.heap.size v2 [s0, s1, s2] → _) := fun V v1 v2 g1 g2 => segs_eq [s0, s1, s2] h6 (by show 3 < _; omega) v1 v2 V g1 g2
        have H6 := Lib.hid h6
        have H7 := Lib.hid h7
        obtain ⟨k1, tv, w1⟩ := t1
        obtain ⟨k2, uv, w2'⟩ := t2
        have h62 := h7 ⟨k1, tv, w1⟩ (by simp)
        have h63 := h7 ⟨k2, uv, w2'⟩ (by simp)
        dsimp only at h62 h63 hx1 hy1 hx2 hy2
        obtain ⟨p0, p1, p2, p3, p4, p5, rfl⟩ := six h62
        obtain ⟨r0, r1, r2, r3, r4, r5, rfl⟩ := six h63
        simp only [List.getD_cons_zero, List.getD_cons_succ] at hx1 hy1 hx2 hy2
        replace hx1 := hx1.symm
        replace hy1 := hy1.symm
        replace hx2 := hx2.symm
        replace hy2 := hy2.symm
        subst hx1 hy1 hx2 hy2
        clear hA hB' hC hXo h6 h7 h62 h63 hBy
        go_upto_region 10 with (first
          | (go_at_call 18; (with_reducible refine (HOA.out _ _ ?_ HB.out).mono ?_); (· simp [la, lb, lc, ld, le, lf]); rintro e w2 ⟨hb2, va, rfl, hs2⟩; have HB2 := Lib.hid (HB.out.trans hb2); have HN2 := Lib.hid (hb2.heap HN.out); have HD2 := Lib.hid (hb2.heap HD.out); have HSA := Lib.hid (SRow.read hs2 H6.out); (obtain ⟨ap, ac, hva, _⟩ := hs2.form); (replace hva : va = .slice ap 3 ac := hva); subst hva; clear hb2 hs2))
        have eaw2 : w2.cell? ⟨N + 1, 0, none⟩ = some (.string qa) := by rw [heap_cell HD2.out]; rfl
        have ebw2 : w2.cell? ⟨N + 1, 1, none⟩ = some (.string qb) := by rw [heap_cell HD2.out]; rfl
        have ecw2 : w2.cell? ⟨N + 1, 2, none⟩ = some (.string qc) := by rw [heap_cell HD2.out]; rfl
        have edw2 : w2.cell? ⟨N + 1, 3, none⟩ = some (.string qd) := by rw [heap_cell HD2.out]; rfl
        have eew2 : w2.cell? ⟨N + 1, 4, none⟩ = some (.string qe) := by rw [heap_cell HD2.out]; rfl
        have efw2 : w2.cell? ⟨N + 1, 5, none⟩ = some (.string qf) := by rw [heap_cell HD2.out]; rfl
        go_upto_region 11 with (first
          | (go_at_call 18; (with_reducible refine (HOB.out _ _ ?_ HB2.out).mono ?_); (· simp [la, lb, lc, ld, le, lf]); rintro e w3 ⟨hb3, va, rfl, hs3⟩; have HB3 := Lib.hid (HB2.out.trans hb3); have HN3 := Lib.hid (hb3.heap HN2.out); have HD3 := Lib.hid (hb3.heap HD2.out); have HSA3 := Lib.hid (HSA.out.bel hb3); have HSB := Lib.hid (SRow.read hs3 H6.out); (obtain ⟨bp, bc, hva, _⟩ := hs3.form); (replace hva : va = .slice bp 3 bc := hva); subst hva; clear hb3 hs3))
        have eaw3 : w3.cell? ⟨N + 1, 0, none⟩ = some (.string qa) := by rw [heap_cell HD3.out]; rfl
        have ebw3 : w3.cell? ⟨N + 1, 1, none⟩ = some (.string qb) := by rw [heap_cell HD3.out]; rfl
        have ecw3 : w3.cell? ⟨N + 1, 2, none⟩ = some (.string qc) := by rw [heap_cell HD3.out]; rfl
        have edw3 : w3.cell? ⟨N + 1, 3, none⟩ = some (.string qd) := by rw [heap_cell HD3.out]; rfl
        have eew3 : w3.cell? ⟨N + 1, 4, none⟩ = some (.string qe) := by rw [heap_cell HD3.out]; rfl
        have efw3 : w3.cell? ⟨N + 1, 5, none⟩ = some (.string qf) := by rw [heap_cell HD3.out]; rfl
        go_upto_region 12 with (first
          | (go_at_call 18; (with_reducible refine (HOC.out _ _ ?_ HB3.out).mono ?_); (· simp [la, lb, lc, ld, le, lf]); rintro e w4 ⟨hb4, va, rfl, hs4⟩; have HB4 := Lib.hid (HB3.out.trans hb4); have HN4 := Lib.hid (hb4.heap HN3.out); have HD4 := Lib.hid (hb4.heap HD3.out); have HSA4 := Lib.hid (HSA3.out.bel hb4); have HSB4 := Lib.hid (HSB.out.bel hb4); have HSC := Lib.hid (SRow.read hs4 H6.out); (obtain ⟨cp, cc, hva, _⟩ := hs4.form); (replace hva : va = .slice cp 3 cc := hva); subst hva; clear hb4 hs4))
        go_upto_region 14 with (first
          | (go_at_call 17; (with_reducible refine (HSE.out _ _ _ HSA4.out HSB4.out).mono ?_); rintro e w5 ⟨rfl, hb5⟩; have HB5 := Lib.hid (HB4.out.trans hb5); have HN5 := Lib.hid (hb5.heap HN4.out); have HD5 := Lib.hid (hb5.heap HD4.out); have HSA5 := Lib.hid (HSA4.out.bel hb5); have HSC5 := Lib.hid (HSC.out.bel hb5); clear hb5)
          | (go_at_call 17; (with_reducible refine (HSE.out _ _ _ HSA5.out HSC5.out).mono ?_); rintro e w6 ⟨rfl, hb6⟩; have HB6 := Lib.hid (HB5.out.trans hb6); have HN6 := Lib.hid (hb6.heap HN5.out); have HD6 := Lib.hid (hb6.heap HD5.out); clear hb6))
        have eaw6 : w6.cell? ⟨N + 1, 0, none⟩ = some (.string qa) := by rw [heap_cell HD6.out]; rfl
        have ebw6 : w6.cell? ⟨N + 1, 1, none⟩ = some (.string qb) := by rw [heap_cell HD6.out]; rfl
        have ecw6 : w6.cell? ⟨N + 1, 2, none⟩ = some (.string qc) := by rw [heap_cell HD6.out]; rfl
        have edw6 : w6.cell? ⟨N + 1, 3, none⟩ = some (.string qd) := by rw [heap_cell HD6.out]; rfl
        have eew6 : w6.cell? ⟨N + 1, 4, none⟩ = some (.string qe) := by rw [heap_cell HD6.out]; rfl
        have efw6 : w6.cell? ⟨N + 1, 5, none⟩ = some (.string qf) := by rw [heap_cell HD6.out]; rfl
        go_upto_region 15 with (first
          | (go_at_call 18; (with_reducible refine (HOX.out _ _ ?_ HB6.out).mono ?_); (· simp [la, lb, lc, ld]); rintro e w7 ⟨hb7, va, rfl, hs7⟩; have HB7 := Lib.hid (HB6.out.trans hb7); have HN7 := Lib.hid (hb7.heap HN6.out); have HSX := Lib.hid (SRow.read hs7 H7.out); (obtain ⟨xp, xc, hva, _⟩ := hs7.form); (replace hva : va = .slice xp 3 xc := hva); subst hva; clear hb7 hs7))
        obtain ⟨xb, xo, xcc, hex, _, _, f0, f1, f2, _⟩ := HSX.out.at (k := 1) (show [t0, ⟨k1, [c, b, p2, p3, p4, p5], w1⟩, ⟨k2, [c, d, r2, r3, r4, r5], w2'⟩][1]? = some ⟨k1, [c, b, p2, p3, p4, p5], w1⟩ from rfl)
        simp only [Value.slice.injEq] at hex
        obtain ⟨rfl, _, rfl⟩ := hex
        obtain ⟨xb2, xo2, xcc2, hex, _, _, g0, g1, g2, _⟩ := HSX.out.at (k := 2) (show [t0, ⟨k1, [c, b, p2, p3, p4, p5], w1⟩, ⟨k2, [c, d, r2, r3, r4, r5], w2'⟩][2]? = some ⟨k2, [c, d, r2, r3, r4, r5], w2'⟩ from rfl)
        simp only [Value.slice.injEq, Option.some.injEq, Addr.mk.injEq] at hex
        obtain ⟨⟨rfl, rfl, _⟩, _, rfl⟩ := hex
        have n0 : w7.cell? ⟨N, 0, none⟩ = some (.int .i16 a) := by rw [heap_cell HN7.out]; rfl
        have n1 : w7.cell? ⟨N, 1, none⟩ = some (.int .i16 b) := by rw [heap_cell HN7.out]; rfl
        have n2 : w7.cell? ⟨N, 2, none⟩ = some (.int .i16 c) := by rw [heap_cell HN7.out]; rfl
        have n3 : w7.cell? ⟨N, 3, none⟩ = some (.int .i16 d) := by rw [heap_cell HN7.out]; rfl
        have ba := HALL.out a (by simp)
        have bb := HALL.out b (by simp)
        have bc' := HALL.out c (by simp)
        have bd := HALL.out d (by simp)
        unfold dOk at ba bb bc' bd
        have m1 : IntKind.i64.wrap a = a := IntWalk.i64_in _ (by omega)
        have m2 : IntKind.i64.wrap b = b := IntWalk.i64_in _ (by omega)
        have m3 : IntKind.i64.wrap c = c := IntWalk.i64_in _ (by omega)
        have m4 : IntKind.i64.wrap d = d := IntWalk.i64_in _ (by omega)
        have m5 : IntKind.i64.wrap (a + c) = a + c := IntWalk.i64_in _ (by omega)
        have m6 : IntKind.i64.wrap (b + d) = b + d := IntWalk.i64_in _ (by omega)
        go_upto_region 17 with fail
        go_cut [23, 24] from 184 to 189 (fun s23 s24 wx => s23 = .int .i64 c ∧ s24 = .int .i64 d ∧ Bel w7 wx)
        case first =>
          go_quiet (fail)
          go_wp2
          go_meet
          exact ⟨rfl, rfl, (Bel.refl w7).drewN _⟩
        case rest =>
        obtain ⟨rfl, rfl, hbz⟩ := hcut
        have HBQ := Lib.hid (HB7.out.trans hbz)
        have o0' : wc.cell? ⟨N, 0, none⟩ = some (.int .i16 a) := hbz.cell n0
        have o1' : wc.cell? ⟨N, 1, none⟩ = some (.int .i16 b) := hbz.cell n1
        have y1 : wc.cell? ⟨xb, xo + 8 + 1, none⟩ = some (.int .i64 (c)) := by have := hbz.cell f1; simpa using this
        have y2 : wc.cell? ⟨xb, xo + 8 + 2, none⟩ = some (.int .i64 b) := by have := hbz.cell f2; simpa using this
        have y3 : wc.cell? ⟨xb, xo + 16 + 1, none⟩ = some (.int .i64 (c)) := by have := hbz.cell g1; simpa using this
        have y4 : wc.cell? ⟨xb, xo + 16 + 2, none⟩ = some (.int .i64 (d)) := by have := hbz.cell g2; simpa using this
        clear f0 f1 f2 g0 g1 g2 n0 n1 n2 n3 hbz
        go_upto_region 20 with fail
        go_still_tail 37, (by kernel_rfl)
        have HBR := Lib.hid HBQ.out.drew
        change wpList _ _ _ _ _ wc.drew
        generalize wc.drew = wd at HBR ⊢
        go_wp2_with (first
          | (go_at_call 12; (with_reducible refine (HWK.out _ HBR.out).mono ?_); rintro e9 w9 ⟨rfl, hb9⟩; have HB9 := Lib.hid (HBR.out.trans hb9); clear hb9))
        go_ret
        exact ⟨rfl, HB9.out⟩
      | true =>
        have hT := again_small ha hb hc hd he hf
        have hX := lines_small ha hb hc hd
        have hBy := agB_small a b c d e f
        rw [hBy.1, hBy.2.1, hBy.2.2.1] at hT
        rw [hBy.2.2.2] at hX
        obtain ⟨s0, s1, s2, hA, hB', hC⟩ := hT
        obtain ⟨t0, t1, t2, hXo, hx1, hy1, hx2, hy2⟩ := hX
        have h6 : ∀ s ∈ [s0, s1, s2], s.v.length = 6 := fun s hs => ((of_back hA).2.1 s hs).1
        have h7 : ∀ s ∈ [t0, t1, t2], s.v.length = 6 := fun s hs => ((of_back hXo).2.1 s hs).1
        have HOA : Hid (∀ (sb : ByteArray) (V : World), sb.data.toList = [109] ++ Lib.itoa a ++ [32] ++ Lib.itoa b ++ [32] ++ Lib.itoa c ++ [32] ++ Lib.itoa d ++ [44] ++ Lib.itoa e ++ [32] ++ Lib.itoa f → Bel w V → _) := fun sb V hs hV => of_bytes hA (by simp; omega) HW.out sb V hs hV
        have HOB : Hid (∀ (sb : ByteArray) (V : World), sb.data.toList = [109] ++ Lib.itoa a ++ [32] ++ Lib.itoa b ++ [108] ++ Lib.itoa c ++ [32] ++ Lib.itoa d ++ [108] ++ Lib.itoa e ++ [32] ++ Lib.itoa f → Bel w V → _) := fun sb V hs hV => of_bytes hB' (by simp; omega) HW.out sb V hs hV
        have HOC : Hid (∀ (sb : ByteArray) (V : World), sb.data.toList = [109] ++ Lib.itoa a ++ [32] ++ Lib.itoa b ++ [108] ++ Lib.itoa c ++ [32] ++ Lib.itoa d ++ [32] ++ Lib.itoa e ++ [32] ++ Lib.itoa f → Bel w V → _) := fun sb V hs hV => of_bytes hC (by simp; omega) HW.out sb V hs hV
        have HOX : Hid (∀ (sb : ByteArray) (V : World), sb.data.toList = [109] ++ Lib.itoa a ++ [32] ++ Lib.itoa b ++ [104] ++ Lib.itoa c ++ [118] ++ Lib.itoa d → Bel w V → _) := fun sb V hs hV => of_bytes hXo (by simp; omega) HW.out sb V hs hV
        have HSE : Hid (∀ V v1 v2, SegRow V V.heap.size v1 [s0, s1, s2] → SegRow V V.heap.size v2 [s0, s1, s2] → _) := fun V v1 v2 g1 g2 => segs_eq [s0, s1, s2] h6 (by show 3 < _; omega) v1 v2 V g1 g2
        have H6 := Lib.hid h6
        have H7 := Lib.hid h7
        obtain ⟨k1, tv, w1⟩ := t1
        obtain ⟨k2, uv, w2'⟩ := t2
        have h62 := h7 ⟨k1, tv, w1⟩ (by simp)
        have h63 := h7 ⟨k2, uv, w2'⟩ (by simp)
        dsimp only at h62 h63 hx1 hy1 hx2 hy2
        obtain ⟨p0, p1, p2, p3, p4, p5, rfl⟩ := six h62
        obtain ⟨r0, r1, r2, r3, r4, r5, rfl⟩ := six h63
        simp only [List.getD_cons_zero, List.getD_cons_succ] at hx1 hy1 hx2 hy2
        replace hx1 := hx1.symm
        replace hy1 := hy1.symm
        replace hx2 := hx2.symm
        replace hy2 := hy2.symm
        subst hx1 hy1 hx2 hy2
        clear hA hB' hC hXo h6 h7 h62 h63 hBy
        go_upto_region 10 with (first
          | (go_at_call 18; (with_reducible refine (HOA.out _ _ ?_ HB.out).mono ?_); (· simp [la, lb, lc, ld, le, lf]); rintro e w2 ⟨hb2, va, rfl, hs2⟩; have HB2 := Lib.hid (HB.out.trans hb2); have HN2 := Lib.hid (hb2.heap HN.out); have HD2 := Lib.hid (hb2.heap HD.out); have HSA := Lib.hid (SRow.read hs2 H6.out); (obtain ⟨ap, ac, hva, _⟩ := hs2.form); (replace hva : va = .slice ap 3 ac := hva); subst hva; clear hb2 hs2))
        have eaw2 : w2.cell? ⟨N + 1, 0, none⟩ = some (.string qa) := by rw [heap_cell HD2.out]; rfl
        have ebw2 : w2.cell? ⟨N + 1, 1, none⟩ = some (.string qb) := by rw [heap_cell HD2.out]; rfl
        have ecw2 : w2.cell? ⟨N + 1, 2, none⟩ = some (.string qc) := by rw [heap_cell HD2.out]; rfl
        have edw2 : w2.cell? ⟨N + 1, 3, none⟩ = some (.string qd) := by rw [heap_cell HD2.out]; rfl
        have eew2 : w2.cell? ⟨N + 1, 4, none⟩ = some (.string qe) := by rw [heap_cell HD2.out]; rfl
        have efw2 : w2.cell? ⟨N + 1, 5, none⟩ = some (.string qf) := by rw [heap_cell HD2.out]; rfl
        go_upto_region 11 with (first
          | (go_at_call 18; (with_reducible refine (HOB.out _ _ ?_ HB2.out).mono ?_); (· simp [la, lb, lc, ld, le, lf]); rintro e w3 ⟨hb3, va, rfl, hs3⟩; have HB3 := Lib.hid (HB2.out.trans hb3); have HN3 := Lib.hid (hb3.heap HN2.out); have HD3 := Lib.hid (hb3.heap HD2.out); have HSA3 := Lib.hid (HSA.out.bel hb3); have HSB := Lib.hid (SRow.read hs3 H6.out); (obtain ⟨bp, bc, hva, _⟩ := hs3.form); (replace hva : va = .slice bp 3 bc := hva); subst hva; clear hb3 hs3))
        have eaw3 : w3.cell? ⟨N + 1, 0, none⟩ = some (.string qa) := by rw [heap_cell HD3.out]; rfl
        have ebw3 : w3.cell? ⟨N + 1, 1, none⟩ = some (.string qb) := by rw [heap_cell HD3.out]; rfl
        have ecw3 : w3.cell? ⟨N + 1, 2, none⟩ = some (.string qc) := by rw [heap_cell HD3.out]; rfl
        have edw3 : w3.cell? ⟨N + 1, 3, none⟩ = some (.string qd) := by rw [heap_cell HD3.out]; rfl
        have eew3 : w3.cell? ⟨N + 1, 4, none⟩ = some (.string qe) := by rw [heap_cell HD3.out]; rfl
        have efw3 : w3.cell? ⟨N + 1, 5, none⟩ = some (.string qf) := by rw [heap_cell HD3.out]; rfl
        go_upto_region 12 with (first
          | (go_at_call 18; (with_reducible refine (HOC.out _ _ ?_ HB3.out).mono ?_); (· simp [la, lb, lc, ld, le, lf]); rintro e w4 ⟨hb4, va, rfl, hs4⟩; have HB4 := Lib.hid (HB3.out.trans hb4); have HN4 := Lib.hid (hb4.heap HN3.out); have HD4 := Lib.hid (hb4.heap HD3.out); have HSA4 := Lib.hid (HSA3.out.bel hb4); have HSB4 := Lib.hid (HSB.out.bel hb4); have HSC := Lib.hid (SRow.read hs4 H6.out); (obtain ⟨cp, cc, hva, _⟩ := hs4.form); (replace hva : va = .slice cp 3 cc := hva); subst hva; clear hb4 hs4))
        go_upto_region 14 with (first
          | (go_at_call 17; (with_reducible refine (HSE.out _ _ _ HSA4.out HSB4.out).mono ?_); rintro e w5 ⟨rfl, hb5⟩; have HB5 := Lib.hid (HB4.out.trans hb5); have HN5 := Lib.hid (hb5.heap HN4.out); have HD5 := Lib.hid (hb5.heap HD4.out); have HSA5 := Lib.hid (HSA4.out.bel hb5); have HSC5 := Lib.hid (HSC.out.bel hb5); clear hb5)
          | (go_at_call 17; (with_reducible refine (HSE.out _ _ _ HSA5.out HSC5.out).mono ?_); rintro e w6 ⟨rfl, hb6⟩; have HB6 := Lib.hid (HB5.out.trans hb6); have HN6 := Lib.hid (hb6.heap HN5.out); have HD6 := Lib.hid (hb6.heap HD5.out); clear hb6))
        have eaw6 : w6.cell? ⟨N + 1, 0, none⟩ = some (.string qa) := by rw [heap_cell HD6.out]; rfl
        have ebw6 : w6.cell? ⟨N + 1, 1, none⟩ = some (.string qb) := by rw [heap_cell HD6.out]; rfl
        have ecw6 : w6.cell? ⟨N + 1, 2, none⟩ = some (.string qc) := by rw [heap_cell HD6.out]; rfl
        have edw6 : w6.cell? ⟨N + 1, 3, none⟩ = some (.string qd) := by rw [heap_cell HD6.out]; rfl
        have eew6 : w6.cell? ⟨N + 1, 4, none⟩ = some (.string qe) := by rw [heap_cell HD6.out]; rfl
        have efw6 : w6.cell? ⟨N + 1, 5, none⟩ = some (.string qf) := by rw [heap_cell HD6.out]; rfl
        go_upto_region 15 with (first
          | (go_at_call 18; (with_reducible refine (HOX.out _ _ ?_ HB6.out).mono ?_); (· simp [la, lb, lc, ld]); rintro e w7 ⟨hb7, va, rfl, hs7⟩; have HB7 := Lib.hid (HB6.out.trans hb7); have HN7 := Lib.hid (hb7.heap HN6.out); have HSX := Lib.hid (SRow.read hs7 H7.out); (obtain ⟨xp, xc, hva, _⟩ := hs7.form); (replace hva : va = .slice xp 3 xc := hva); subst hva; clear hb7 hs7))
        obtain ⟨xb, xo, xcc, hex, _, _, f0, f1, f2, _⟩ := HSX.out.at (k := 1) (show [t0, ⟨k1, [a + c, b, p2, p3, p4, p5], w1⟩, ⟨k2, [a + c, b + d, r2, r3, r4, r5], w2'⟩][1]? = some ⟨k1, [a + c, b, p2, p3, p4, p5], w1⟩ from rfl)
        simp only [Value.slice.injEq] at hex
        obtain ⟨rfl, _, rfl⟩ := hex
        obtain ⟨xb2, xo2, xcc2, hex, _, _, g0, g1, g2, _⟩ := HSX.out.at (k := 2) (show [t0, ⟨k1, [a + c, b, p2, p3, p4, p5], w1⟩, ⟨k2, [a + c, b + d, r2, r3, r4, r5], w2'⟩][2]? = some ⟨k2, [a + c, b + d, r2, r3, r4, r5], w2'⟩ from rfl)
        simp only [Value.slice.injEq, Option.some.injEq, Addr.mk.injEq] at hex
        obtain ⟨⟨rfl, rfl, _⟩, _, rfl⟩ := hex
        have n0 : w7.cell? ⟨N, 0, none⟩ = some (.int .i16 a) := by rw [heap_cell HN7.out]; rfl
        have n1 : w7.cell? ⟨N, 1, none⟩ = some (.int .i16 b) := by rw [heap_cell HN7.out]; rfl
        have n2 : w7.cell? ⟨N, 2, none⟩ = some (.int .i16 c) := by rw [heap_cell HN7.out]; rfl
        have n3 : w7.cell? ⟨N, 3, none⟩ = some (.int .i16 d) := by rw [heap_cell HN7.out]; rfl
        have ba := HALL.out a (by simp)
        have bb := HALL.out b (by simp)
        have bc' := HALL.out c (by simp)
        have bd := HALL.out d (by simp)
        unfold dOk at ba bb bc' bd
        have m1 : IntKind.i64.wrap a = a := IntWalk.i64_in _ (by omega)
        have m2 : IntKind.i64.wrap b = b := IntWalk.i64_in _ (by omega)
        have m3 : IntKind.i64.wrap c = c := IntWalk.i64_in _ (by omega)
        have m4 : IntKind.i64.wrap d = d := IntWalk.i64_in _ (by omega)
        have m5 : IntKind.i64.wrap (a + c) = a + c := IntWalk.i64_in _ (by omega)
        have m6 : IntKind.i64.wrap (b + d) = b + d := IntWalk.i64_in _ (by omega)
        go_upto_region 17 with fail
        go_cut [23, 24] from 184 to 189 (fun s23 s24 wx => s23 = .int .i64 c ∧ s24 = .int .i64 d ∧ Bel w7 wx)
        case first =>
          go_quiet (fail)
          go_wp2
          go_meet
          exact ⟨rfl, rfl, (Bel.refl w7).drewN _⟩
        case rest =>
        obtain ⟨rfl, rfl, hbz⟩ := hcut
        have o0 : wc.cell? ⟨N, 0, none⟩ = some (.int .i16 a) := hbz.cell n0
        have o1 : wc.cell? ⟨N, 1, none⟩ = some (.int .i16 b) := hbz.cell n1
        have HBZ := Lib.hid hbz
        clear hbz
        go_upto_region 19 with fail
        go_cut [23, 24] from 190 to 200 (fun s23 s24 wx => s23 = .int .i64 (a + c) ∧ s24 = .int .i64 (b + d) ∧ Bel w7 wx)
        case first =>
          go_quiet (fail)
          go_wp2
          go_meet
          exact ⟨rfl, rfl, HBZ.out.drewN _⟩
        case rest =>
        obtain ⟨rfl, rfl, hbz⟩ := hcut
        have HBQ := Lib.hid (HB7.out.trans hbz)
        have o0' : wc.cell? ⟨N, 0, none⟩ = some (.int .i16 a) := hbz.cell n0
        have o1' : wc.cell? ⟨N, 1, none⟩ = some (.int .i16 b) := hbz.cell n1
        have y1 : wc.cell? ⟨xb, xo + 8 + 1, none⟩ = some (.int .i64 (a + c)) := by have := hbz.cell f1; simpa using this
        have y2 : wc.cell? ⟨xb, xo + 8 + 2, none⟩ = some (.int .i64 b) := by have := hbz.cell f2; simpa using this
        have y3 : wc.cell? ⟨xb, xo + 16 + 1, none⟩ = some (.int .i64 (a + c)) := by have := hbz.cell g1; simpa using this
        have y4 : wc.cell? ⟨xb, xo + 16 + 2, none⟩ = some (.int .i64 (b + d)) := by have := hbz.cell g2; simpa using this
        clear f0 f1 f2 g0 g1 g2 n0 n1 n2 n3 hbz
        go_upto_region 20 with fail
        go_still_tail 37, (by kernel_rfl)
        have HBR := Lib.hid HBQ.out.drew
        change wpList _ _ _ _ _ wc.drew
        generalize wc.drew = wd at HBR ⊢
        go_wp2_with (first
          | (go_at_call 12; (with_reducible refine (HWK.out _ HBR.out).mono ?_); rintro e9 w9 ⟨rfl, hb9⟩; have HB9 := Lib.hid (HBR.out.trans hb9); clear hb9))
        go_ret
        exact ⟨rfl, HB9.out⟩
end Go.Proofs.YtefajplbgmikdaaDoor
