/-
  The walk of the law PathMirrors.
-/
import Derived.Test.YtefajplbgmikdaaDoorDec
import Derived.Test.YtefajplbgmikdaaDoorTextMore
namespace Go.Proofs.YtefajplbgmikdaaDoor
open Go.RowKit

theorem itoa_1 : Lib.itoa 1 = [49] := by rw [show (1 : Int) = ((1 : Nat) : Int) from rfl, Lib.itoa_nonneg, Lib.decDigits_one (by decide)]; rfl
theorem itoa_2 : Lib.itoa 2 = [50] := by rw [show (2 : Int) = ((2 : Nat) : Int) from rfl, Lib.itoa_nonneg, Lib.decDigits_one (by decide)]; rfl
/-- The texts of numbers, one behind the other: so many are laid. -/
def decC (ns : List Int) (k : Nat) : List Value := (ns.take k).map (fun n => strV (Lib.itoa n)) ++ List.replicate (ns.length - k) (.string ⟨#[]⟩)
theorem decC_set (ns : List Int) (k : Nat) (x : Int) (h : ns[k]? = some x) : (decC ns k).toArray.setIfInBounds k (strV (Lib.itoa x)) = (decC ns (k + 1)).toArray := by
  obtain ⟨hlt, hx⟩ := List.getElem?_eq_some_iff.1 h
  rw [List.setIfInBounds_toArray]
  congr 1
  unfold decC
  rw [List.take_add_one, h, List.map_append, show ns.length - k = (ns.length - (k + 1)) + 1 by omega, List.replicate_succ]
  have hl : ((ns.take k).map (fun n => strV (Lib.itoa n))).length = k := by simp; omega
  rw [List.set_append_right _ _ (by omega), hl, Nat.sub_self, List.set_cons_zero]
  simp
theorem decC_at (ns : List Int) (k : Nat) (h : k < ns.length) : (decC ns k).toArray[k]? = some (.string ⟨#[]⟩) := by
  unfold decC
  have hl : ((ns.take k).map (fun n => strV (Lib.itoa n))).length = k := by simp; omega
  rw [List.getElem?_toArray, List.getElem?_append_right (by omega), hl, Nat.sub_self, show ns.length - k = (ns.length - (k + 1)) + 1 by omega, List.replicate_succ]
  rfl
theorem bs1 (c : UInt8) : (⟨#[c]⟩ : ByteArray).size = 1 := rfl
theorem dec_len {d : Int} (h : dOk d) : (Lib.itoa d).length ≤ 21 := Lib.itoa_length_le d (by unfold dOk at h; omega) (by unfold dOk at h; omega)
/-- The path of a text that is given by its bytes. -/
theorem of_bytes {T : List UInt8} {l : List Sg} (h : ofS T = .ok l) (hT : T.length ≤ 1048576) {w : World} (hb : Base w) (sb : ByteArray) (V : World) (hs : sb.data.toList = T) (hV : Bel w V) :
    Calls Tryd.prog 18 #[.string sb] V fun e w' => Bel V w' ∧ ∃ v, e = .returned (.tuple #[v, .int .i64 0, .int .i64 0]) ∧ SRow w' V.heap.size v l := by
  have : sb = ⟨T.toArray⟩ := by rw [← hs]
  rw [this]
  exact of_ok h hT V (hb.on hV).rul (hb.on hV).lt
theorem mirB0 (a b c d e f g h : Int) : render (mir0 ++ (mirC a b c d e f ++ mirS g h)) = [77, 48, 32, 48] ++ ([67] ++ Lib.itoa a ++ [32] ++ Lib.itoa b ++ [32] ++ Lib.itoa c ++ [32] ++ Lib.itoa d ++ [32] ++ Lib.itoa e ++ [32] ++ Lib.itoa f) ++ ([83, 49, 32, 50, 32] ++ Lib.itoa g ++ [32] ++ Lib.itoa h) := by
  simp [render, mir0, mirC, mirS, pcB, itoa_0, itoa_1, itoa_2]
theorem mirB1 (_ _ c d e f g h : Int) : render (mir0 ++ (mirQ c d e f ++ mirS g h)) = [77, 48, 32, 48] ++ ([81] ++ Lib.itoa c ++ [32] ++ Lib.itoa d ++ [32] ++ Lib.itoa e ++ [32] ++ Lib.itoa f) ++ ([83, 49, 32, 50, 32] ++ Lib.itoa g ++ [32] ++ Lib.itoa h) := by
  simp [render, mir0, mirQ, mirS, pcB, itoa_0, itoa_1, itoa_2]
theorem mirB2 (_ _ _ _ e f g h : Int) : render (mir0 ++ (mirL e f ++ mirS g h)) = [77, 48, 32, 48] ++ ([76] ++ Lib.itoa e ++ [32] ++ Lib.itoa f) ++ ([83, 49, 32, 50, 32] ++ Lib.itoa g ++ [32] ++ Lib.itoa h) := by
  simp [render, mir0, mirL, mirS, pcB, itoa_0, itoa_1, itoa_2]
theorem mirB3 (a b c d e f g h : Int) : render (mir0 ++ (mirC a b c d e f ++ mirT g h)) = [77, 48, 32, 48] ++ ([67] ++ Lib.itoa a ++ [32] ++ Lib.itoa b ++ [32] ++ Lib.itoa c ++ [32] ++ Lib.itoa d ++ [32] ++ Lib.itoa e ++ [32] ++ Lib.itoa f) ++ ([84] ++ Lib.itoa g ++ [32] ++ Lib.itoa h) := by
  simp [render, mir0, mirC, mirT, pcB, itoa_0]
theorem mirB4 (_ _ c d e f g h : Int) : render (mir0 ++ (mirQ c d e f ++ mirT g h)) = [77, 48, 32, 48] ++ ([81] ++ Lib.itoa c ++ [32] ++ Lib.itoa d ++ [32] ++ Lib.itoa e ++ [32] ++ Lib.itoa f) ++ ([84] ++ Lib.itoa g ++ [32] ++ Lib.itoa h) := by
  simp [render, mir0, mirQ, mirT, pcB, itoa_0]
theorem mirB5 (_ _ _ _ e f g h : Int) : render (mir0 ++ (mirL e f ++ mirT g h)) = [77, 48, 32, 48] ++ ([76] ++ Lib.itoa e ++ [32] ++ Lib.itoa f) ++ ([84] ++ Lib.itoa g ++ [32] ++ Lib.itoa h) := by
  simp [render, mir0, mirL, mirT, pcB, itoa_0]

set_option maxHeartbeats 8000000 in
set_option maxRecDepth 100000 in
theorem pathMirrors_any (a b c d e f g h : Int) (kind : Nat) (ha : dOk a) (hb : dOk b) (hc : dOk c) (hd : dOk d) (he : dOk e) (hf : dOk f) (hg : dOk g) (hh : dOk h) (hk : kind < 256) (w : World) (hw : Base w) :
    Calls Tryd.prog 6 #[.agg #[.int .i16 a, .int .i16 b, .int .i16 c, .int .i16 d, .int .i16 e, .int .i16 f, .int .i16 g, .int .i16 h], .int .u8 kind] w fun e w' => e = .returned (.bool true) ∧ Bel w w' := by
  have HW := Lib.hid hw
  have HWK : Hid (∀ V, Bel w V → _) := fun V h => wakes_base (hw.on h)
  have HALL : Hid (∀ x ∈ [a, b, c, d, e, f, g, h], dOk x) := by
    intro x hx
    simp only [List.mem_cons, List.not_mem_nil, or_false] at hx
    rcases hx with rfl | rfl | rfl | rfl | rfl | rfl | rfl | rfl <;> assumption
  have HN0 : Hid (Bel w ((w.alloc (.cells #[.int .i16 a, .int .i16 b, .int .i16 c, .int .i16 d, .int .i16 e, .int .i16 f, .int .i16 g, .int .i16 h] 42)).alloc (.cells #[.string ⟨#[]⟩, .string ⟨#[]⟩, .string ⟨#[]⟩, .string ⟨#[]⟩, .string ⟨#[]⟩, .string ⟨#[]⟩, .string ⟨#[]⟩, .string ⟨#[]⟩] 43))) := ((Bel.refl w).alloc _).alloc _
  have HN1 : Hid (((w.alloc (.cells #[.int .i16 a, .int .i16 b, .int .i16 c, .int .i16 d, .int .i16 e, .int .i16 f, .int .i16 g, .int .i16 h] 42)).alloc (.cells #[.string ⟨#[]⟩, .string ⟨#[]⟩, .string ⟨#[]⟩, .string ⟨#[]⟩, .string ⟨#[]⟩, .string ⟨#[]⟩, .string ⟨#[]⟩, .string ⟨#[]⟩] 43)).heap[w.heap.size]? = _) := heap_push_of (heap_alloc_new _ _) _
  have hn2 := heap_alloc_new (w.alloc (.cells #[.int .i16 a, .int .i16 b, .int .i16 c, .int .i16 d, .int .i16 e, .int .i16 f, .int .i16 g, .int .i16 h] 42)) (.cells #[.string ⟨#[]⟩, .string ⟨#[]⟩, .string ⟨#[]⟩, .string ⟨#[]⟩, .string ⟨#[]⟩, .string ⟨#[]⟩, .string ⟨#[]⟩, .string ⟨#[]⟩] 43)
  have hz : (w.alloc (.cells #[.int .i16 a, .int .i16 b, .int .i16 c, .int .i16 d, .int .i16 e, .int .i16 f, .int .i16 g, .int .i16 h] 42)).heap.size = w.heap.size + 1 := by simp
  rw [hz] at hn2
  have HN2 := Lib.hid hn2
  clear hn2 hz hw
  go_enter Tryd.func6, Tryd.ntmps6
  go_upto_region 2 with fail
  generalize ((w.alloc (.cells #[.int .i16 a, .int .i16 b, .int .i16 c, .int .i16 d, .int .i16 e, .int .i16 f, .int .i16 g, .int .i16 h] 42)).alloc (.cells #[.string ⟨#[]⟩, .string ⟨#[]⟩, .string ⟨#[]⟩, .string ⟨#[]⟩, .string ⟨#[]⟩, .string ⟨#[]⟩, .string ⟨#[]⟩, .string ⟨#[]⟩] 43)) = w0 at HN0 HN1 HN2 ⊢
  obtain ⟨N, hN⟩ : ∃ N, w.heap.size = N := ⟨_, rfl⟩
  rw [hN] at HN1 HN2 ⊢
  have HNN : Hid (w.heap.size ≤ N) := Nat.le_of_eq hN
  clear hN
  go_wp2_with fail
  go_loopg [6] 8 (fun gf i wx => ∃ k : Nat, i = .int .i64 k ∧ k ≤ 8 ∧ 8 ≤ k + gf ∧ Bel w wx ∧ wx.heap[N]? = some (.cells #[.int .i16 a, .int .i16 b, .int .i16 c, .int .i16 d, .int .i16 e, .int .i16 f, .int .i16 g, .int .i16 h] 42 (0, 0)) ∧ wx.heap[N + 1]? = some (.cells (decC [a, b, c, d, e, f, g, h] k).toArray 43 (0, 0)))
  case atStart => exact ⟨0, rfl, by omega, by omega, HN0.out, HN1.out, HN2.out⟩
  case round =>
    obtain ⟨k, rfl, hk8, hkg, hbl, hn, hdd⟩ := hrel
    have HB := Lib.hid hbl
    have HN := Lib.hid hn
    have HD := Lib.hid hdd
    clear hbl hn hdd
    by_cases hlt : k < 8
    · obtain ⟨gk', rfl⟩ : ∃ g, gk = g + 1 := ⟨gk - 1, by omega⟩
      obtain ⟨x, hx⟩ : ∃ x, [a, b, c, d, e, f, g, h][k]? = some x := ⟨_, List.getElem?_eq_getElem (by simpa using hlt)⟩
      have hdx := HALL.out x (List.mem_of_getElem? hx)
      unfold dOk at hdx
      have hxc : wr.cell? ⟨N, k, none⟩ = some (.int .i16 x) := by
        rw [heap_cell HN.out]
        have hj : k = 0 ∨ k = 1 ∨ k = 2 ∨ k = 3 ∨ k = 4 ∨ k = 5 ∨ k = 6 ∨ k = 7 := by omega
        rcases hj with rfl | rfl | rfl | rfl | rfl | rfl | rfl | rfl <;> (simp at hx; subst hx; rfl)
      have hwx : IntKind.i64.wrap x = x := IntWalk.i64_in x (by omega)
      have hdec := fun V => lawdec_any x (by omega) V
      have HDEC := Lib.hid hdec
      have HST : Hid ((decC [a, b, c, d, e, f, g, h] k).toArray.setIfInBounds k (strV (Lib.itoa x)) = (decC [a, b, c, d, e, f, g, h] (k + 1)).toArray) := decC_set _ k x hx
      have HAT : Hid ((decC [a, b, c, d, e, f, g, h] k).toArray[k]? = some (.string ⟨#[]⟩)) := decC_at _ k (by simpa using hlt)
      clear hx hdec
      go_wp2_with (first
        | (go_at_call 19; (with_reducible refine (HDEC.out _).mono ?_); rintro e w2 ⟨rfl, hb2⟩; have HB2 := Lib.hid (HB.out.trans hb2); have HNB := Lib.hid (hb2.heap HN.out); have HD2 := Lib.hid (hb2.heap HD.out); have dc := (heap_cell HD2.out k).trans HAT.out; have df := heap_frozen HD2.out k; clear hb2))
      go_roundg gk'
      case measure => omega
      case rel => exact ⟨k + 1, rfl, by omega, by omega, HB2.out.set (by have := HNN.out; show _ ≤ N + 1; omega) _, (Below.heap_setCell _ _ _ _ (by show N ≠ N + 1; omega)).trans HNB.out, by rw [← HST.out]; exact heap_set HD2.out k _⟩
    · obtain rfl : k = 8 := by omega
      have hd8 : decC [a, b, c, d, e, f, g, h] 8 = [strV (Lib.itoa a), strV (Lib.itoa b), strV (Lib.itoa c), strV (Lib.itoa d), strV (Lib.itoa e), strV (Lib.itoa f), strV (Lib.itoa g), strV (Lib.itoa h)] := rfl
      rw [hd8] at HD
      unfold strV at HD
      obtain ⟨qa, hqa⟩ : ∃ z : ByteArray, (⟨(Lib.itoa a).toArray⟩ : ByteArray) = z := ⟨_, rfl⟩
      obtain ⟨qb, hqb⟩ : ∃ z : ByteArray, (⟨(Lib.itoa b).toArray⟩ : ByteArray) = z := ⟨_, rfl⟩
      obtain ⟨qc, hqc⟩ : ∃ z : ByteArray, (⟨(Lib.itoa c).toArray⟩ : ByteArray) = z := ⟨_, rfl⟩
      obtain ⟨qd, hqd⟩ : ∃ z : ByteArray, (⟨(Lib.itoa d).toArray⟩ : ByteArray) = z := ⟨_, rfl⟩
      obtain ⟨qe, hqe⟩ : ∃ z : ByteArray, (⟨(Lib.itoa e).toArray⟩ : ByteArray) = z := ⟨_, rfl⟩
      obtain ⟨qf, hqf⟩ : ∃ z : ByteArray, (⟨(Lib.itoa f).toArray⟩ : ByteArray) = z := ⟨_, rfl⟩
      obtain ⟨qg, hqg⟩ : ∃ z : ByteArray, (⟨(Lib.itoa g).toArray⟩ : ByteArray) = z := ⟨_, rfl⟩
      obtain ⟨qh, hqh⟩ : ∃ z : ByteArray, (⟨(Lib.itoa h).toArray⟩ : ByteArray) = z := ⟨_, rfl⟩
      rw [hqa, hqb, hqc, hqd, hqe, hqf, hqg, hqh] at HD
      have la : qa.data.toList = Lib.itoa a := by rw [← hqa]
      have za : qa.size ≤ 21 := by rw [← hqa]; exact dec_len (HALL.out a (by simp))
      have ea : wr.cell? ⟨N + 1, 0, none⟩ = some (.string qa) := by rw [heap_cell HD.out]; rfl
      have lb : qb.data.toList = Lib.itoa b := by rw [← hqb]
      have zb : qb.size ≤ 21 := by rw [← hqb]; exact dec_len (HALL.out b (by simp))
      have eb : wr.cell? ⟨N + 1, 1, none⟩ = some (.string qb) := by rw [heap_cell HD.out]; rfl
      have lc : qc.data.toList = Lib.itoa c := by rw [← hqc]
      have zc : qc.size ≤ 21 := by rw [← hqc]; exact dec_len (HALL.out c (by simp))
      have ec : wr.cell? ⟨N + 1, 2, none⟩ = some (.string qc) := by rw [heap_cell HD.out]; rfl
      have ld : qd.data.toList = Lib.itoa d := by rw [← hqd]
      have zd : qd.size ≤ 21 := by rw [← hqd]; exact dec_len (HALL.out d (by simp))
      have ed : wr.cell? ⟨N + 1, 3, none⟩ = some (.string qd) := by rw [heap_cell HD.out]; rfl
      have le : qe.data.toList = Lib.itoa e := by rw [← hqe]
      have ze : qe.size ≤ 21 := by rw [← hqe]; exact dec_len (HALL.out e (by simp))
      have ee : wr.cell? ⟨N + 1, 4, none⟩ = some (.string qe) := by rw [heap_cell HD.out]; rfl
      have lf : qf.data.toList = Lib.itoa f := by rw [← hqf]
      have zf : qf.size ≤ 21 := by rw [← hqf]; exact dec_len (HALL.out f (by simp))
      have ef : wr.cell? ⟨N + 1, 5, none⟩ = some (.string qf) := by rw [heap_cell HD.out]; rfl
      have lg : qg.data.toList = Lib.itoa g := by rw [← hqg]
      have zg : qg.size ≤ 21 := by rw [← hqg]; exact dec_len (HALL.out g (by simp))
      have eg : wr.cell? ⟨N + 1, 6, none⟩ = some (.string qg) := by rw [heap_cell HD.out]; rfl
      have lh : qh.data.toList = Lib.itoa h := by rw [← hqh]
      have zh : qh.size ≤ 21 := by rw [← hqh]; exact dec_len (HALL.out h (by simp))
      have eh : wr.cell? ⟨N + 1, 7, none⟩ = some (.string qh) := by rw [heap_cell HD.out]; rfl
      clear hqa hqb hqc hqd hqe hqf hqg hqh hd8
      go_upto_region 6 with fail
      go_cut [7] from 26 to 71 (fun s7 wx => ∃ (A : Nat) (x0 x1 x2 : ByteArray), s7 = .slice (some ⟨A, 0, none⟩) 3 3 ∧ wx.heap[A]? = some (.cells #[.string x0, .string x1, .string x2] 9 (0, 0)) ∧ x0.data.toList = ([67] ++ Lib.itoa a ++ [32] ++ Lib.itoa b ++ [32] ++ Lib.itoa c ++ [32] ++ Lib.itoa d ++ [32] ++ Lib.itoa e ++ [32] ++ Lib.itoa f) ∧ x1.data.toList = ([81] ++ Lib.itoa c ++ [32] ++ Lib.itoa d ++ [32] ++ Lib.itoa e ++ [32] ++ Lib.itoa f) ∧ x2.data.toList = ([76] ++ Lib.itoa e ++ [32] ++ Lib.itoa f) ∧ x0.size ≤ 200 ∧ x1.size ≤ 200 ∧ x2.size ≤ 200 ∧ Bel wr wx)
      case first =>
        go_wp2_with fail
        go_meet
        refine ⟨_, _, _, _, rfl, heap_alloc_new _ _, ?_, ?_, ?_, ?_, ?_, ?_, (Bel.refl _).alloc _⟩
        · simp [la, lb, lc, ld, le, lf]
        · simp [lc, ld, le, lf]
        · simp [le, lf]
        · simp [bs1]; omega
        · simp [bs1]; omega
        · simp [bs1]; omega
      case rest =>
      obtain ⟨A, x0, x1, x2, rfl, hA, hx0, hx1, hx2, hs0, hs1, hs2, hbA⟩ := hcut
      have HX0 := Lib.hid hx0
      have HX1 := Lib.hid hx1
      have HX2 := Lib.hid hx2
      have HBA := Lib.hid (HB.out.trans hbA)
      have HNA := Lib.hid (hbA.heap HN.out)
      have a0 : wc.cell? ⟨A, 0, none⟩ = some (.string x0) := by rw [heap_cell hA]; rfl
      have a1 : wc.cell? ⟨A, 1, none⟩ = some (.string x1) := by rw [heap_cell hA]; rfl
      have a2 : wc.cell? ⟨A, 2, none⟩ = some (.string x2) := by rw [heap_cell hA]; rfl
      have g6 : wc.cell? ⟨N + 1, 6, none⟩ = some (.string qg) := hbA.cell eg
      have g7 : wc.cell? ⟨N + 1, 7, none⟩ = some (.string qh) := hbA.cell eh
      clear hA hx0 hx1 hx2 hbA HD ea eb ec ed ee ef eg eh
      have hwk : IntKind.i64.wrap (kind : Int) = kind := IntWalk.i64_in _ (by omega)
      have hcases : (kind : Int) % 6 = 0 ∨ (kind : Int) % 6 = 1 ∨ (kind : Int) % 6 = 2 ∨ (kind : Int) % 6 = 3 ∨ (kind : Int) % 6 = 4 ∨ (kind : Int) % 6 = 5 := by omega
      rcases hcases with hK | hK | hK | hK | hK | hK
      · have hT : Third (render (mir0 ++ (mirC a b c d e f ++ mirS g h))) 4 (2 * e - c) (2 * f - d) := mir_cs ha hb hc hd he hf hg hh
        rw [mirB0 a b c d e f g h] at hT
        obtain ⟨s0, s1, s2, hof, hkk, hv0, hv1⟩ := hT
        have hgood := (of_back hof).2.1
        have h6 : ∀ s ∈ [s0, s1, s2], s.v.length = 6 := fun s hs => (hgood s hs).1
        have hlen : ([77, 48, 32, 48] ++ ([67] ++ Lib.itoa a ++ [32] ++ Lib.itoa b ++ [32] ++ Lib.itoa c ++ [32] ++ Lib.itoa d ++ [32] ++ Lib.itoa e ++ [32] ++ Lib.itoa f) ++ ([83, 49, 32, 50, 32] ++ Lib.itoa g ++ [32] ++ Lib.itoa h)).length ≤ 1048576 := by
          have := dec_len ha; have := dec_len hb; have := dec_len hc; have := dec_len hd; have := dec_len he; have := dec_len hf; have := dec_len hg; have := dec_len hh
          simp
          omega
        have HOF : Hid (∀ (sb : ByteArray) (V : World), sb.data.toList = [77, 48, 32, 48] ++ ([67] ++ Lib.itoa a ++ [32] ++ Lib.itoa b ++ [32] ++ Lib.itoa c ++ [32] ++ Lib.itoa d ++ [32] ++ Lib.itoa e ++ [32] ++ Lib.itoa f) ++ ([83, 49, 32, 50, 32] ++ Lib.itoa g ++ [32] ++ Lib.itoa h) → Bel w V → _) := fun sb V hs hV => of_bytes hof hlen HW.out sb V hs hV
        have H6 := Lib.hid h6
        obtain ⟨tk, tv, tw⟩ := s2
        have h62 := h6 ⟨tk, tv, tw⟩ (by simp)
        dsimp only at h62 hkk hv0 hv1
        obtain ⟨p0, p1, p2, p3, p4, p5, rfl⟩ := six h62
        simp only [List.getD_cons_zero, List.getD_cons_succ] at hv0 hv1
        replace hkk := hkk.symm
        replace hv0 := hv0.symm
        replace hv1 := hv1.symm
        subst hkk hv0 hv1
        clear hof hgood h6 h62 hlen
        go_upto_region 12 with (first
          | (go_at_call 18; (with_reducible refine (HOF.out _ _ ?_ HBA.out).mono ?_); (· simp [HX0.out, lg, lh]); rintro e w6 ⟨hb6, va, rfl, hs6⟩; have HB6 := Lib.hid (HBA.out.trans hb6); have HN6 := Lib.hid (hb6.heap HNA.out); have HS6 := Lib.hid (SRow.read hs6 H6.out); (obtain ⟨ap, ac, hva, _⟩ := hs6.form); (replace hva : va = .slice ap 3 ac := hva); subst hva; clear hb6 hs6))
        obtain ⟨sb6, so6, scc, he6, _, _, r0, r1, r2, _⟩ := HS6.out.at (k := 2) (show [s0, s1, ⟨4, [2 * e - c, 2 * f - d, p2, p3, p4, p5], tw⟩][2]? = some ⟨4, [2 * e - c, 2 * f - d, p2, p3, p4, p5], tw⟩ from rfl)
        simp only [Value.slice.injEq] at he6
        obtain ⟨rfl, _, rfl⟩ := he6
        have n2 : w6.cell? ⟨N, 2, none⟩ = some (.int .i16 c) := by rw [heap_cell HN6.out]; rfl
        have n3 : w6.cell? ⟨N, 3, none⟩ = some (.int .i16 d) := by rw [heap_cell HN6.out]; rfl
        have n4 : w6.cell? ⟨N, 4, none⟩ = some (.int .i16 e) := by rw [heap_cell HN6.out]; rfl
        have n5 : w6.cell? ⟨N, 5, none⟩ = some (.int .i16 f) := by rw [heap_cell HN6.out]; rfl
        have bc := HALL.out c (by simp)
        have bd := HALL.out d (by simp)
        have be := HALL.out e (by simp)
        have bf := HALL.out f (by simp)
        unfold dOk at bc bd be bf
        have m1 : IntKind.i64.wrap c = c := IntWalk.i64_in _ (by omega)
        have m2 : IntKind.i64.wrap d = d := IntWalk.i64_in _ (by omega)
        have m3 : IntKind.i64.wrap e = e := IntWalk.i64_in _ (by omega)
        have m4 : IntKind.i64.wrap f = f := IntWalk.i64_in _ (by omega)
        have m5 : IntKind.i64.wrap (2 * e) = 2 * e := IntWalk.i64_in _ (by omega)
        have m6 : IntKind.i64.wrap (2 * f) = 2 * f := IntWalk.i64_in _ (by omega)
        have m7 : IntKind.i64.wrap (2 * e - c) = 2 * e - c := IntWalk.i64_in _ (by omega)
        have m8 : IntKind.i64.wrap (2 * f - d) = 2 * f - d := IntWalk.i64_in _ (by omega)
        clear a0 a1 a2 g6 g7
        go_upto_region 14 with fail
        go_wp2_with fail
        go_quiet (fail)
        go_wp2_with fail
        go_quiet (fail)
        go_wp2_with (first
          | (go_at_call 12; (with_reducible refine (HWK.out _ (HB6.out.drewN _)).mono ?_); rintro e9 w9 ⟨rfl, hb9⟩; have HB9 := Lib.hid (Bel.trans (HB6.out.drewN _) hb9); clear hb9))
        go_ret
        exact ⟨rfl, HB9.out⟩
      · have hT : Third (render (mir0 ++ (mirQ c d e f ++ mirS g h))) 4 (e) (f) := mir_qs hc hd he hf hg hh
        rw [mirB1 a b c d e f g h] at hT
        obtain ⟨s0, s1, s2, hof, hkk, hv0, hv1⟩ := hT
        have hgood := (of_back hof).2.1
        have h6 : ∀ s ∈ [s0, s1, s2], s.v.length = 6 := fun s hs => (hgood s hs).1
        have hlen : ([77, 48, 32, 48] ++ ([81] ++ Lib.itoa c ++ [32] ++ Lib.itoa d ++ [32] ++ Lib.itoa e ++ [32] ++ Lib.itoa f) ++ ([83, 49, 32, 50, 32] ++ Lib.itoa g ++ [32] ++ Lib.itoa h)).length ≤ 1048576 := by
          have := dec_len ha; have := dec_len hb; have := dec_len hc; have := dec_len hd; have := dec_len he; have := dec_len hf; have := dec_len hg; have := dec_len hh
          simp
          omega
        have HOF : Hid (∀ (sb : ByteArray) (V : World), sb.data.toList = [77, 48, 32, 48] ++ ([81] ++ Lib.itoa c ++ [32] ++ Lib.itoa d ++ [32] ++ Lib.itoa e ++ [32] ++ Lib.itoa f) ++ ([83, 49, 32, 50, 32] ++ Lib.itoa g ++ [32] ++ Lib.itoa h) → Bel w V → _) := fun sb V hs hV => of_bytes hof hlen HW.out sb V hs hV
        have H6 := Lib.hid h6
        obtain ⟨tk, tv, tw⟩ := s2
        have h62 := h6 ⟨tk, tv, tw⟩ (by simp)
        dsimp only at h62 hkk hv0 hv1
        obtain ⟨p0, p1, p2, p3, p4, p5, rfl⟩ := six h62
        simp only [List.getD_cons_zero, List.getD_cons_succ] at hv0 hv1
        replace hkk := hkk.symm
        replace hv0 := hv0.symm
        replace hv1 := hv1.symm
        subst hkk hv0 hv1
        clear hof hgood h6 h62 hlen
        go_upto_region 12 with (first
          | (go_at_call 18; (with_reducible refine (HOF.out _ _ ?_ HBA.out).mono ?_); (· simp [HX1.out, lg, lh]); rintro e w6 ⟨hb6, va, rfl, hs6⟩; have HB6 := Lib.hid (HBA.out.trans hb6); have HN6 := Lib.hid (hb6.heap HNA.out); have HS6 := Lib.hid (SRow.read hs6 H6.out); (obtain ⟨ap, ac, hva, _⟩ := hs6.form); (replace hva : va = .slice ap 3 ac := hva); subst hva; clear hb6 hs6))
        obtain ⟨sb6, so6, scc, he6, _, _, r0, r1, r2, _⟩ := HS6.out.at (k := 2) (show [s0, s1, ⟨4, [e, f, p2, p3, p4, p5], tw⟩][2]? = some ⟨4, [e, f, p2, p3, p4, p5], tw⟩ from rfl)
        simp only [Value.slice.injEq] at he6
        obtain ⟨rfl, _, rfl⟩ := he6
        have n2 : w6.cell? ⟨N, 2, none⟩ = some (.int .i16 c) := by rw [heap_cell HN6.out]; rfl
        have n3 : w6.cell? ⟨N, 3, none⟩ = some (.int .i16 d) := by rw [heap_cell HN6.out]; rfl
        have n4 : w6.cell? ⟨N, 4, none⟩ = some (.int .i16 e) := by rw [heap_cell HN6.out]; rfl
        have n5 : w6.cell? ⟨N, 5, none⟩ = some (.int .i16 f) := by rw [heap_cell HN6.out]; rfl
        have bc := HALL.out c (by simp)
        have bd := HALL.out d (by simp)
        have be := HALL.out e (by simp)
        have bf := HALL.out f (by simp)
        unfold dOk at bc bd be bf
        have m1 : IntKind.i64.wrap c = c := IntWalk.i64_in _ (by omega)
        have m2 : IntKind.i64.wrap d = d := IntWalk.i64_in _ (by omega)
        have m3 : IntKind.i64.wrap e = e := IntWalk.i64_in _ (by omega)
        have m4 : IntKind.i64.wrap f = f := IntWalk.i64_in _ (by omega)
        have m5 : IntKind.i64.wrap (2 * e) = 2 * e := IntWalk.i64_in _ (by omega)
        have m6 : IntKind.i64.wrap (2 * f) = 2 * f := IntWalk.i64_in _ (by omega)
        have m7 : IntKind.i64.wrap (2 * e - c) = 2 * e - c := IntWalk.i64_in _ (by omega)
        have m8 : IntKind.i64.wrap (2 * f - d) = 2 * f - d := IntWalk.i64_in _ (by omega)
        clear a0 a1 a2 g6 g7
        go_upto_region 14 with fail
        go_wp2_with fail
        go_quiet (fail)
        go_wp2_with (first
          | (go_at_call 12; (with_reducible refine (HWK.out _ (HB6.out.drewN _)).mono ?_); rintro e9 w9 ⟨rfl, hb9⟩; have HB9 := Lib.hid (Bel.trans (HB6.out.drewN _) hb9); clear hb9))
        go_ret
        exact ⟨rfl, HB9.out⟩
      · have hT : Third (render (mir0 ++ (mirL e f ++ mirS g h))) 4 (e) (f) := mir_ls he hf hg hh
        rw [mirB2 a b c d e f g h] at hT
        obtain ⟨s0, s1, s2, hof, hkk, hv0, hv1⟩ := hT
        have hgood := (of_back hof).2.1
        have h6 : ∀ s ∈ [s0, s1, s2], s.v.length = 6 := fun s hs => (hgood s hs).1
        have hlen : ([77, 48, 32, 48] ++ ([76] ++ Lib.itoa e ++ [32] ++ Lib.itoa f) ++ ([83, 49, 32, 50, 32] ++ Lib.itoa g ++ [32] ++ Lib.itoa h)).length ≤ 1048576 := by
          have := dec_len ha; have := dec_len hb; have := dec_len hc; have := dec_len hd; have := dec_len he; have := dec_len hf; have := dec_len hg; have := dec_len hh
          simp
          omega
        have HOF : Hid (∀ (sb : ByteArray) (V : World), sb.data.toList = [77, 48, 32, 48] ++ ([76] ++ Lib.itoa e ++ [32] ++ Lib.itoa f) ++ ([83, 49, 32, 50, 32] ++ Lib.itoa g ++ [32] ++ Lib.itoa h) → Bel w V → _) := fun sb V hs hV => of_bytes hof hlen HW.out sb V hs hV
        have H6 := Lib.hid h6
        obtain ⟨tk, tv, tw⟩ := s2
        have h62 := h6 ⟨tk, tv, tw⟩ (by simp)
        dsimp only at h62 hkk hv0 hv1
        obtain ⟨p0, p1, p2, p3, p4, p5, rfl⟩ := six h62
        simp only [List.getD_cons_zero, List.getD_cons_succ] at hv0 hv1
        replace hkk := hkk.symm
        replace hv0 := hv0.symm
        replace hv1 := hv1.symm
        subst hkk hv0 hv1
        clear hof hgood h6 h62 hlen
        go_upto_region 12 with (first
          | (go_at_call 18; (with_reducible refine (HOF.out _ _ ?_ HBA.out).mono ?_); (· simp [HX2.out, lg, lh]); rintro e w6 ⟨hb6, va, rfl, hs6⟩; have HB6 := Lib.hid (HBA.out.trans hb6); have HN6 := Lib.hid (hb6.heap HNA.out); have HS6 := Lib.hid (SRow.read hs6 H6.out); (obtain ⟨ap, ac, hva, _⟩ := hs6.form); (replace hva : va = .slice ap 3 ac := hva); subst hva; clear hb6 hs6))
        obtain ⟨sb6, so6, scc, he6, _, _, r0, r1, r2, _⟩ := HS6.out.at (k := 2) (show [s0, s1, ⟨4, [e, f, p2, p3, p4, p5], tw⟩][2]? = some ⟨4, [e, f, p2, p3, p4, p5], tw⟩ from rfl)
        simp only [Value.slice.injEq] at he6
        obtain ⟨rfl, _, rfl⟩ := he6
        have n2 : w6.cell? ⟨N, 2, none⟩ = some (.int .i16 c) := by rw [heap_cell HN6.out]; rfl
        have n3 : w6.cell? ⟨N, 3, none⟩ = some (.int .i16 d) := by rw [heap_cell HN6.out]; rfl
        have n4 : w6.cell? ⟨N, 4, none⟩ = some (.int .i16 e) := by rw [heap_cell HN6.out]; rfl
        have n5 : w6.cell? ⟨N, 5, none⟩ = some (.int .i16 f) := by rw [heap_cell HN6.out]; rfl
        have bc := HALL.out c (by simp)
        have bd := HALL.out d (by simp)
        have be := HALL.out e (by simp)
        have bf := HALL.out f (by simp)
        unfold dOk at bc bd be bf
        have m1 : IntKind.i64.wrap c = c := IntWalk.i64_in _ (by omega)
        have m2 : IntKind.i64.wrap d = d := IntWalk.i64_in _ (by omega)
        have m3 : IntKind.i64.wrap e = e := IntWalk.i64_in _ (by omega)
        have m4 : IntKind.i64.wrap f = f := IntWalk.i64_in _ (by omega)
        have m5 : IntKind.i64.wrap (2 * e) = 2 * e := IntWalk.i64_in _ (by omega)
        have m6 : IntKind.i64.wrap (2 * f) = 2 * f := IntWalk.i64_in _ (by omega)
        have m7 : IntKind.i64.wrap (2 * e - c) = 2 * e - c := IntWalk.i64_in _ (by omega)
        have m8 : IntKind.i64.wrap (2 * f - d) = 2 * f - d := IntWalk.i64_in _ (by omega)
        clear a0 a1 a2 g6 g7
        go_upto_region 14 with fail
        go_wp2_with fail
        go_quiet (fail)
        go_wp2_with (first
          | (go_at_call 12; (with_reducible refine (HWK.out _ (HB6.out.drewN _)).mono ?_); rintro e9 w9 ⟨rfl, hb9⟩; have HB9 := Lib.hid (Bel.trans (HB6.out.drewN _) hb9); clear hb9))
        go_ret
        exact ⟨rfl, HB9.out⟩
      · have hT : Third (render (mir0 ++ (mirC a b c d e f ++ mirT g h))) 3 (e) (f) := mir_ct ha hb hc hd he hf hg hh
        rw [mirB3 a b c d e f g h] at hT
        obtain ⟨s0, s1, s2, hof, hkk, hv0, hv1⟩ := hT
        have hgood := (of_back hof).2.1
        have h6 : ∀ s ∈ [s0, s1, s2], s.v.length = 6 := fun s hs => (hgood s hs).1
        have hlen : ([77, 48, 32, 48] ++ ([67] ++ Lib.itoa a ++ [32] ++ Lib.itoa b ++ [32] ++ Lib.itoa c ++ [32] ++ Lib.itoa d ++ [32] ++ Lib.itoa e ++ [32] ++ Lib.itoa f) ++ ([84] ++ Lib.itoa g ++ [32] ++ Lib.itoa h)).length ≤ 1048576 := by
          have := dec_len ha; have := dec_len hb; have := dec_len hc; have := dec_len hd; have := dec_len he; have := dec_len hf; have := dec_len hg; have := dec_len hh
          simp
          omega
        have HOF : Hid (∀ (sb : ByteArray) (V : World), sb.data.toList = [77, 48, 32, 48] ++ ([67] ++ Lib.itoa a ++ [32] ++ Lib.itoa b ++ [32] ++ Lib.itoa c ++ [32] ++ Lib.itoa d ++ [32] ++ Lib.itoa e ++ [32] ++ Lib.itoa f) ++ ([84] ++ Lib.itoa g ++ [32] ++ Lib.itoa h) → Bel w V → _) := fun sb V hs hV => of_bytes hof hlen HW.out sb V hs hV
        have H6 := Lib.hid h6
        obtain ⟨tk, tv, tw⟩ := s2
        have h62 := h6 ⟨tk, tv, tw⟩ (by simp)
        dsimp only at h62 hkk hv0 hv1
        obtain ⟨p0, p1, p2, p3, p4, p5, rfl⟩ := six h62
        simp only [List.getD_cons_zero, List.getD_cons_succ] at hv0 hv1
        replace hkk := hkk.symm
        replace hv0 := hv0.symm
        replace hv1 := hv1.symm
        subst hkk hv0 hv1
        clear hof hgood h6 h62 hlen
        go_upto_region 12 with (first
          | (go_at_call 18; (with_reducible refine (HOF.out _ _ ?_ HBA.out).mono ?_); (· simp [HX0.out, lg, lh]); rintro e w6 ⟨hb6, va, rfl, hs6⟩; have HB6 := Lib.hid (HBA.out.trans hb6); have HN6 := Lib.hid (hb6.heap HNA.out); have HS6 := Lib.hid (SRow.read hs6 H6.out); (obtain ⟨ap, ac, hva, _⟩ := hs6.form); (replace hva : va = .slice ap 3 ac := hva); subst hva; clear hb6 hs6))
        obtain ⟨sb6, so6, scc, he6, _, _, r0, r1, r2, _⟩ := HS6.out.at (k := 2) (show [s0, s1, ⟨3, [e, f, p2, p3, p4, p5], tw⟩][2]? = some ⟨3, [e, f, p2, p3, p4, p5], tw⟩ from rfl)
        simp only [Value.slice.injEq] at he6
        obtain ⟨rfl, _, rfl⟩ := he6
        have n2 : w6.cell? ⟨N, 2, none⟩ = some (.int .i16 c) := by rw [heap_cell HN6.out]; rfl
        have n3 : w6.cell? ⟨N, 3, none⟩ = some (.int .i16 d) := by rw [heap_cell HN6.out]; rfl
        have n4 : w6.cell? ⟨N, 4, none⟩ = some (.int .i16 e) := by rw [heap_cell HN6.out]; rfl
        have n5 : w6.cell? ⟨N, 5, none⟩ = some (.int .i16 f) := by rw [heap_cell HN6.out]; rfl
        have bc := HALL.out c (by simp)
        have bd := HALL.out d (by simp)
        have be := HALL.out e (by simp)
        have bf := HALL.out f (by simp)
        unfold dOk at bc bd be bf
        have m1 : IntKind.i64.wrap c = c := IntWalk.i64_in _ (by omega)
        have m2 : IntKind.i64.wrap d = d := IntWalk.i64_in _ (by omega)
        have m3 : IntKind.i64.wrap e = e := IntWalk.i64_in _ (by omega)
        have m4 : IntKind.i64.wrap f = f := IntWalk.i64_in _ (by omega)
        have m5 : IntKind.i64.wrap (2 * e) = 2 * e := IntWalk.i64_in _ (by omega)
        have m6 : IntKind.i64.wrap (2 * f) = 2 * f := IntWalk.i64_in _ (by omega)
        have m7 : IntKind.i64.wrap (2 * e - c) = 2 * e - c := IntWalk.i64_in _ (by omega)
        have m8 : IntKind.i64.wrap (2 * f - d) = 2 * f - d := IntWalk.i64_in _ (by omega)
        clear a0 a1 a2 g6 g7
        go_upto_region 14 with fail
        go_wp2_with fail
        go_quiet (fail)
        go_wp2_with (first
          | (go_at_call 12; (with_reducible refine (HWK.out _ (HB6.out.drewN _)).mono ?_); rintro e9 w9 ⟨rfl, hb9⟩; have HB9 := Lib.hid (Bel.trans (HB6.out.drewN _) hb9); clear hb9))
        go_ret
        exact ⟨rfl, HB9.out⟩
      · have hT : Third (render (mir0 ++ (mirQ c d e f ++ mirT g h))) 3 (2 * e - c) (2 * f - d) := mir_qt hc hd he hf hg hh
        rw [mirB4 a b c d e f g h] at hT
        obtain ⟨s0, s1, s2, hof, hkk, hv0, hv1⟩ := hT
        have hgood := (of_back hof).2.1
        have h6 : ∀ s ∈ [s0, s1, s2], s.v.length = 6 := fun s hs => (hgood s hs).1
        have hlen : ([77, 48, 32, 48] ++ ([81] ++ Lib.itoa c ++ [32] ++ Lib.itoa d ++ [32] ++ Lib.itoa e ++ [32] ++ Lib.itoa f) ++ ([84] ++ Lib.itoa g ++ [32] ++ Lib.itoa h)).length ≤ 1048576 := by
          have := dec_len ha; have := dec_len hb; have := dec_len hc; have := dec_len hd; have := dec_len he; have := dec_len hf; have := dec_len hg; have := dec_len hh
          simp
          omega
        have HOF : Hid (∀ (sb : ByteArray) (V : World), sb.data.toList = [77, 48, 32, 48] ++ ([81] ++ Lib.itoa c ++ [32] ++ Lib.itoa d ++ [32] ++ Lib.itoa e ++ [32] ++ Lib.itoa f) ++ ([84] ++ Lib.itoa g ++ [32] ++ Lib.itoa h) → Bel w V → _) := fun sb V hs hV => of_bytes hof hlen HW.out sb V hs hV
        have H6 := Lib.hid h6
        obtain ⟨tk, tv, tw⟩ := s2
        have h62 := h6 ⟨tk, tv, tw⟩ (by simp)
        dsimp only at h62 hkk hv0 hv1
        obtain ⟨p0, p1, p2, p3, p4, p5, rfl⟩ := six h62
        simp only [List.getD_cons_zero, List.getD_cons_succ] at hv0 hv1
        replace hkk := hkk.symm
        replace hv0 := hv0.symm
        replace hv1 := hv1.symm
        subst hkk hv0 hv1
        clear hof hgood h6 h62 hlen
        go_upto_region 12 with (first
          | (go_at_call 18; (with_reducible refine (HOF.out _ _ ?_ HBA.out).mono ?_); (· simp [HX1.out, lg, lh]); rintro e w6 ⟨hb6, va, rfl, hs6⟩; have HB6 := Lib.hid (HBA.out.trans hb6); have HN6 := Lib.hid (hb6.heap HNA.out); have HS6 := Lib.hid (SRow.read hs6 H6.out); (obtain ⟨ap, ac, hva, _⟩ := hs6.form); (replace hva : va = .slice ap 3 ac := hva); subst hva; clear hb6 hs6))
        obtain ⟨sb6, so6, scc, he6, _, _, r0, r1, r2, _⟩ := HS6.out.at (k := 2) (show [s0, s1, ⟨3, [2 * e - c, 2 * f - d, p2, p3, p4, p5], tw⟩][2]? = some ⟨3, [2 * e - c, 2 * f - d, p2, p3, p4, p5], tw⟩ from rfl)
        simp only [Value.slice.injEq] at he6
        obtain ⟨rfl, _, rfl⟩ := he6
        have n2 : w6.cell? ⟨N, 2, none⟩ = some (.int .i16 c) := by rw [heap_cell HN6.out]; rfl
        have n3 : w6.cell? ⟨N, 3, none⟩ = some (.int .i16 d) := by rw [heap_cell HN6.out]; rfl
        have n4 : w6.cell? ⟨N, 4, none⟩ = some (.int .i16 e) := by rw [heap_cell HN6.out]; rfl
        have n5 : w6.cell? ⟨N, 5, none⟩ = some (.int .i16 f) := by rw [heap_cell HN6.out]; rfl
        have bc := HALL.out c (by simp)
        have bd := HALL.out d (by simp)
        have be := HALL.out e (by simp)
        have bf := HALL.out f (by simp)
        unfold dOk at bc bd be bf
        have m1 : IntKind.i64.wrap c = c := IntWalk.i64_in _ (by omega)
        have m2 : IntKind.i64.wrap d = d := IntWalk.i64_in _ (by omega)
        have m3 : IntKind.i64.wrap e = e := IntWalk.i64_in _ (by omega)
        have m4 : IntKind.i64.wrap f = f := IntWalk.i64_in _ (by omega)
        have m5 : IntKind.i64.wrap (2 * e) = 2 * e := IntWalk.i64_in _ (by omega)
        have m6 : IntKind.i64.wrap (2 * f) = 2 * f := IntWalk.i64_in _ (by omega)
        have m7 : IntKind.i64.wrap (2 * e - c) = 2 * e - c := IntWalk.i64_in _ (by omega)
        have m8 : IntKind.i64.wrap (2 * f - d) = 2 * f - d := IntWalk.i64_in _ (by omega)
        clear a0 a1 a2 g6 g7
        go_upto_region 14 with fail
        go_wp2_with fail
        go_quiet (fail)
        go_wp2_with fail
        go_quiet (fail)
        go_wp2_with (first
          | (go_at_call 12; (with_reducible refine (HWK.out _ (HB6.out.drewN _)).mono ?_); rintro e9 w9 ⟨rfl, hb9⟩; have HB9 := Lib.hid (Bel.trans (HB6.out.drewN _) hb9); clear hb9))
        go_ret
        exact ⟨rfl, HB9.out⟩
      · have hT : Third (render (mir0 ++ (mirL e f ++ mirT g h))) 3 (e) (f) := mir_lt he hf hg hh
        rw [mirB5 a b c d e f g h] at hT
        obtain ⟨s0, s1, s2, hof, hkk, hv0, hv1⟩ := hT
        have hgood := (of_back hof).2.1
        have h6 : ∀ s ∈ [s0, s1, s2], s.v.length = 6 := fun s hs => (hgood s hs).1
        have hlen : ([77, 48, 32, 48] ++ ([76] ++ Lib.itoa e ++ [32] ++ Lib.itoa f) ++ ([84] ++ Lib.itoa g ++ [32] ++ Lib.itoa h)).length ≤ 1048576 := by
          have := dec_len ha; have := dec_len hb; have := dec_len hc; have := dec_len hd; have := dec_len he; have := dec_len hf; have := dec_len hg; have := dec_len hh
          simp
          omega
        have HOF : Hid (∀ (sb : ByteArray) (V : World), sb.data.toList = [77, 48, 32, 48] ++ ([76] ++ Lib.itoa e ++ [32] ++ Lib.itoa f) ++ ([84] ++ Lib.itoa g ++ [32] ++ Lib.itoa h) → Bel w V → _) := fun sb V hs hV => of_bytes hof hlen HW.out sb V hs hV
        have H6 := Lib.hid h6
        obtain ⟨tk, tv, tw⟩ := s2
        have h62 := h6 ⟨tk, tv, tw⟩ (by simp)
        dsimp only at h62 hkk hv0 hv1
        obtain ⟨p0, p1, p2, p3, p4, p5, rfl⟩ := six h62
        simp only [List.getD_cons_zero, List.getD_cons_succ] at hv0 hv1
        replace hkk := hkk.symm
        replace hv0 := hv0.symm
        replace hv1 := hv1.symm
        subst hkk hv0 hv1
        clear hof hgood h6 h62 hlen
        go_upto_region 12 with (first
          | (go_at_call 18; (with_reducible refine (HOF.out _ _ ?_ HBA.out).mono ?_); (· simp [HX2.out, lg, lh]); rintro e w6 ⟨hb6, va, rfl, hs6⟩; have HB6 := Lib.hid (HBA.out.trans hb6); have HN6 := Lib.hid (hb6.heap HNA.out); have HS6 := Lib.hid (SRow.read hs6 H6.out); (obtain ⟨ap, ac, hva, _⟩ := hs6.form); (replace hva : va = .slice ap 3 ac := hva); subst hva; clear hb6 hs6))
        obtain ⟨sb6, so6, scc, he6, _, _, r0, r1, r2, _⟩ := HS6.out.at (k := 2) (show [s0, s1, ⟨3, [e, f, p2, p3, p4, p5], tw⟩][2]? = some ⟨3, [e, f, p2, p3, p4, p5], tw⟩ from rfl)
        simp only [Value.slice.injEq] at he6
        obtain ⟨rfl, _, rfl⟩ := he6
        have n2 : w6.cell? ⟨N, 2, none⟩ = some (.int .i16 c) := by rw [heap_cell HN6.out]; rfl
        have n3 : w6.cell? ⟨N, 3, none⟩ = some (.int .i16 d) := by rw [heap_cell HN6.out]; rfl
        have n4 : w6.cell? ⟨N, 4, none⟩ = some (.int .i16 e) := by rw [heap_cell HN6.out]; rfl
        have n5 : w6.cell? ⟨N, 5, none⟩ = some (.int .i16 f) := by rw [heap_cell HN6.out]; rfl
        have bc := HALL.out c (by simp)
        have bd := HALL.out d (by simp)
        have be := HALL.out e (by simp)
        have bf := HALL.out f (by simp)
        unfold dOk at bc bd be bf
        have m1 : IntKind.i64.wrap c = c := IntWalk.i64_in _ (by omega)
        have m2 : IntKind.i64.wrap d = d := IntWalk.i64_in _ (by omega)
        have m3 : IntKind.i64.wrap e = e := IntWalk.i64_in _ (by omega)
        have m4 : IntKind.i64.wrap f = f := IntWalk.i64_in _ (by omega)
        have m5 : IntKind.i64.wrap (2 * e) = 2 * e := IntWalk.i64_in _ (by omega)
        have m6 : IntKind.i64.wrap (2 * f) = 2 * f := IntWalk.i64_in _ (by omega)
        have m7 : IntKind.i64.wrap (2 * e - c) = 2 * e - c := IntWalk.i64_in _ (by omega)
        have m8 : IntKind.i64.wrap (2 * f - d) = 2 * f - d := IntWalk.i64_in _ (by omega)
        clear a0 a1 a2 g6 g7
        go_upto_region 14 with fail
        go_wp2_with fail
        go_quiet (fail)
        go_wp2_with (first
          | (go_at_call 12; (with_reducible refine (HWK.out _ (HB6.out.drewN _)).mono ?_); rintro e9 w9 ⟨rfl, hb9⟩; have HB9 := Lib.hid (Bel.trans (HB6.out.drewN _) hb9); clear hb9))
        go_ret
        exact ⟨rfl, HB9.out⟩
end Go.Proofs.YtefajplbgmikdaaDoor
