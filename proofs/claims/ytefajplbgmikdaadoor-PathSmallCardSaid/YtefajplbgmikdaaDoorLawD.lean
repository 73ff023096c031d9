/-
  The walk of the law PathBack.
-/
import Derived.Test.YtefajplbgmikdaaDoorLawC
namespace Go.Proofs.YtefajplbgmikdaaDoor
open Go.RowKit

/-- What the laws stand on. -/
structure Base (w : World) : Prop where
  rul : Rul w
  lt : 2 < w.heap.size
  tab : Tab w
theorem Base.on {w w' : World} (h : Base w) (hb : Bel w w') : Base w' := ⟨hb.rul h.rul, Nat.lt_of_lt_of_le h.lt hb.size, hb.tab h.tab⟩
theorem wakes_base {w : World} (h : Base w) : Calls Tryd.prog 12 #[] w fun e w' => e = .returned (.bool true) ∧ Bel w w' := wakes_any w h.rul h.lt h.tab

theorem segs_code : ∀ (ps : List Part) (i : Nat) (p : Pen) (a c : Int), segsS ps i p = .error (a, c) → c ≠ 0
  | [], i, p, a, c, h => by simp [segsS] at h
  | x :: ps, i, p, a, c, h => by
    rw [segsS] at h
    split at h
    · simp only [Except.error.injEq, Prod.mk.injEq] at h; omega
    · split at h
      · simp only [Except.error.injEq, Prod.mk.injEq] at h; omega
      · rename_i s p' he
        split at h
        · cases h
        · rename_i e he2
          simp only [Except.error.injEq] at h
          subst h
          exact segs_code ps (i + 1) p' a c he2
theorem of_code {s : List UInt8} {a c : Int} (h : ofS s = .error (a, c)) : c ≠ 0 := by
  unfold ofS at h
  split at h
  · simp only [Except.error.injEq, Prod.mk.injEq] at h; omega
  · unfold parseS at h
    split at h
    · simp only [Except.error.injEq, Prod.mk.injEq] at h; omega
    · exact segs_code _ _ _ _ _ h
/-- Text's answer, its parts named. -/
theorem text_named (l : List Sg) (hl : ∀ s ∈ l, s.v.length = 6) (hn : l.length < 4611686018427387904) : ∃ (tb : ByteArray) (E : Int), (goodS l = true → tb = ⟨(textS l).toArray⟩ ∧ E = 0) ∧ (goodS l = false → tb = ⟨#[]⟩ ∧ E = 11) ∧
    ∀ v w, SegRow w w.heap.size v l → Tab w → Calls Tryd.prog 13 #[v] w fun e w' => Bel w w' ∧ e = .returned (.tuple #[.string tb, .int .i64 E]) := by
  cases hg : goodS l with
  | true => exact ⟨⟨(textS l).toArray⟩, 0, fun _ => ⟨rfl, rfl⟩, fun h => (by cases h), fun v w h ht => (text_any l hl hn v w h ht).mono fun e w' hp => ⟨hp.1, by rw [hp.2, hg]; rfl⟩⟩
  | false => exact ⟨⟨#[]⟩, 11, fun h => (by cases h), fun _ => ⟨rfl, rfl⟩, fun v w h ht => (text_any l hl hn v w h ht).mono fun e w' hp => ⟨hp.1, by rw [hp.2, hg]; rfl⟩⟩

set_option maxHeartbeats 4000000 in
set_option maxRecDepth 100000 in
theorem pathBack_any (l : List Sg) (hl : ∀ s ∈ l, s.v.length = 6) (v : Value) (s : List UInt8) (w : World) (h : SegRow w w.heap.size v l) (hb : Base w) :
    Calls Tryd.prog 4 #[v, .string ⟨s.toArray⟩] w fun e w' => e = .returned (.bool true) ∧ Bel w w' := by
  have H := Lib.hid h
  have HL := Lib.hid hl
  have HB := Lib.hid hb
  have HWK : Hid (∀ V, Bel w V → _) := fun V h => wakes_base (hb.on h)
  obtain ⟨p, c, rfl, hc, _⟩ := h
  have hsz : (⟨s.toArray⟩ : ByteArray).size = s.length := rfl
  obtain ⟨sb, hsb⟩ : ∃ sb : ByteArray, (⟨s.toArray⟩ : ByteArray) = sb := ⟨_, rfl⟩
  have HSB := Lib.hid hsb
  rw [hsb] at hsz ⊢
  clear hl hb hsb
  go_enter Tryd.func4, Tryd.ntmps4
  by_cases h300 : 300 < l.length
  · have h1 : decide ((300 : Int) < (l.length : Int)) = true := decide_eq_true (by omega)
    go_wp2_with (first
      | (go_at_call 12; (with_reducible refine (HWK.out _ (Bel.refl _)).mono ?_); rintro e w2 ⟨rfl, hb2⟩; have HB2 := Lib.hid hb2; clear hb2))
    go_ret
    exact ⟨rfl, HB2.out⟩
  have h1 : decide ((300 : Int) < (l.length : Int)) = false := decide_eq_false (by omega)
  by_cases h2000 : 2000 < s.length
  · have h2 : decide ((2000 : Int) < (s.length : Int)) = true := decide_eq_true (by omega)
    go_wp2_with (first
      | (go_at_call 12; (with_reducible refine (HWK.out _ (Bel.refl _)).mono ?_); rintro e w2 ⟨rfl, hb2⟩; have HB2 := Lib.hid hb2; clear hb2))
    go_ret
    exact ⟨rfl, HB2.out⟩
  have h2 : decide ((2000 : Int) < (s.length : Int)) = false := decide_eq_false (by omega)
  obtain ⟨tb, E, hT1, hT2, hT3⟩ := text_named l HL.out (by omega)
  have HTX := Lib.hid (hT3 _ w H.out HB.out.tab)
  have HT1 := Lib.hid hT1
  have HT2 := Lib.hid hT2
  clear hT1 hT2 hT3
  obtain ⟨N, hN⟩ : ∃ N, s.length = N := ⟨_, rfl⟩
  rw [hN] at hsz h2 h2000
  go_upto_region 4 with (first
    | (go_at_call 13; (with_reducible refine (HTX.out).mono ?_); rintro e w2 ⟨hb2, rfl⟩; have HB2 := Lib.hid hb2; clear hb2))
  go_upto_if 33 with fail
  go_cut [] from 32 to 47 (fun wx => Bel w wx)
  case first =>
    cases hg : goodS l with
    | false =>
      have hE := (HT2.out hg).2
      have hE' : (E == 0) = false := by rw [hE]; rfl
      clear hg hE
      go_wp2
      go_meet
      exact HB2.out
    | true =>
      have hE := (HT1.out hg).2
      have hE' : (E == 0) = true := by rw [hE]; rfl
      have HOF := Lib.hid (of_ok (of_text hg HL.out) (by have := text_len hg; omega) w2 (HB.out.on HB2.out).rul (HB.out.on HB2.out).lt)
      rw [← (HT1.out hg).1] at HOF
      clear hg hE
      go_upto_region 6 with (first
        | (go_at_call 18; (with_reducible refine (HOF.out).mono ?_); rintro e w3 ⟨hb3, va, rfl, hs3⟩; have HB3 := Lib.hid (HB2.out.trans hb3); have HS3 := Lib.hid (SRow.read hs3 HL.out); (obtain ⟨ap, ac, rfl, _⟩ := hs3.form); clear hb3 hs3))
      have HSE := Lib.hid (segs_eq l HL.out (by omega) _ _ w3 HS3.out (H.out.bel HB3.out))
      go_wp2_with (first
        | (go_at_call 17; (with_reducible refine (HSE.out).mono ?_); rintro e w4 ⟨rfl, hb4⟩; have HB4 := Lib.hid (HB3.out.trans hb4); clear hb4))
      go_meet
      exact HB4.out
  case rest =>
  have HB2' := Lib.hid hcut
  clear hcut HB2 HTX HT1 HT2 H
  have HBB := Lib.hid (HB.out.on HB2'.out)
  cases ho : ofS s with
  | error ac =>
    obtain ⟨a, c'⟩ := ac
    have HOF := Lib.hid (of_err ho (by omega) wc HBB.out.rul HBB.out.lt)
    rw [HSB.out] at HOF
    have hc0 := of_code ho
    have hc0' : (c' != 0) = true := by simpa using hc0
    clear ho hc0
    go_wp2_with (first
      | (go_at_call 18; (with_reducible refine (HOF.out).mono ?_); rintro e w3 ⟨hb3, rfl⟩; have HB3 := Lib.hid (HB2'.out.trans hb3); clear hb3)
      | (go_at_call 12; (with_reducible refine (HWK.out _ HB3.out).mono ?_); rintro e w4 ⟨rfl, hb4⟩; have HB4 := Lib.hid (HB3.out.trans hb4); clear hb4))
    go_ret
    exact ⟨rfl, HB4.out⟩
  | ok m =>
    obtain ⟨hg, hok, hot⟩ := of_back ho
    have hm6 : ∀ s ∈ m, s.v.length = 6 := fun s hs => (hok s hs).1
    have hml := (good_parts hg).2.1
    have HOF := Lib.hid (of_ok ho (by omega) wc HBB.out.rul HBB.out.lt)
    rw [HSB.out] at HOF
    have HM6 := Lib.hid hm6
    have HTX : Hid (∀ V v, Bel w V → SegRow V V.heap.size v m → _) := fun V v hb h => text_ok hg hm6 v V h (HB.out.on hb).tab
    have HOF2 : Hid (∀ V, Bel w V → _) := fun V hb => of_ok hot (by have := text_len hg; omega) V (HB.out.on hb).rul (HB.out.on hb).lt
    have HGD : Hid (∀ V v, SegRow V V.heap.size v m → Calls Tryd.prog 15 #[v] V fun e w' => e = .returned (.bool true) ∧ Bel V w') := fun V v h => by
      have := goodAll_any m hm6 (by omega) v V h
      rw [hg] at this
      exact this
    have HSE : Hid (∀ V v1 v2, SegRow V V.heap.size v1 m → SegRow V V.heap.size v2 m → _) := fun V v1 v2 h1 h2 => segs_eq m hm6 (by omega) v1 v2 V h1 h2
    clear ho hg hok hot hm6
    go_upto_region 11 with (first
      | (go_at_call 18; (with_reducible refine (HOF.out).mono ?_); rintro e w3 ⟨hb3, va, rfl, hs3⟩; have HB3 := Lib.hid (HB2'.out.trans hb3); have HS3 := Lib.hid (SRow.read hs3 HM6.out); (obtain ⟨ap, ac, rfl, _⟩ := hs3.form); clear hb3 hs3))
    go_upto_region 12 with (first
      | (go_at_call 13; (with_reducible refine (HTX.out _ _ HB3.out HS3.out).mono ?_); rintro e w4 ⟨hb4, rfl⟩; have HB4 := Lib.hid (HB3.out.trans hb4); have HS4 := Lib.hid (HS3.out.bel hb4); clear hb4))
    go_upto_region 13 with (first
      | (go_at_call 18; (with_reducible refine (HOF2.out _ HB4.out).mono ?_); rintro e w5 ⟨hb5, vb, rfl, hs5⟩; have HB5 := Lib.hid (HB4.out.trans hb5); have HS5 := Lib.hid (HS4.out.bel hb5); have HR5 := Lib.hid (SRow.read hs5 HM6.out); (obtain ⟨bp, bc, rfl, _⟩ := hs5.form); clear hb5 hs5))
    go_wp2_with (first
      | (go_at_call 15; (with_reducible refine (HGD.out _ _ HS5.out).mono ?_); rintro e w6 ⟨rfl, hb6⟩; have HB6 := Lib.hid (HB5.out.trans hb6); have HS6 := Lib.hid (HS5.out.bel hb6); have HR6 := Lib.hid (HR5.out.bel hb6); clear hb6)
      | (go_at_call 17; (with_reducible refine (HSE.out _ _ _ HR6.out HS6.out).mono ?_); rintro e w7 ⟨rfl, hb7⟩; have HB7 := Lib.hid (HB6.out.trans hb7); clear hb7)
      | (go_at_call 12; (with_reducible refine (HWK.out _ HB7.out).mono ?_); rintro e w8 ⟨rfl, hb8⟩; have HB8 := Lib.hid (HB7.out.trans hb8); clear hb8))
    go_ret
    exact ⟨rfl, HB8.out⟩
end Go.Proofs.YtefajplbgmikdaaDoor
