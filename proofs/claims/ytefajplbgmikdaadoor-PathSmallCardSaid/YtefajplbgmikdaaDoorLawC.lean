/-
  The walk of the law's wakes.
-/
import Derived.Test.YtefajplbgmikdaaDoorLawB
namespace Go.Proofs.YtefajplbgmikdaaDoor
open Go.RowKit

def L3 : List Sg := [⟨1, [0, 0, 0, 0, 0, 0], 0⟩, ⟨2, [64, 0, 0, 0, 0, 0], 0⟩, ⟨6, [0, 0, 0, 0, 0, 0], 0⟩]
theorem L3_of : ofS [77, 48, 32, 48, 108, 54, 52, 32, 48, 122] = .ok L3 := by rfl
theorem bad_of : ofS [77, 48, 32, 48, 32, 76, 53] = .error (7, 20) := by rfl
theorem far_of : ofS [77, 48, 32, 50, 49, 52, 55, 52, 56, 51, 54, 52, 56] = .error (3, 21) := by rfl
theorem L3_good : goodS L3 = true := by decide
theorem L3_six : ∀ s ∈ L3, s.v.length = 6 := by decide
theorem itoa_0 : Lib.itoa 0 = [48] := by rw [show (0 : Int) = ((0 : Nat) : Int) from rfl, Lib.itoa_nonneg, Lib.decDigits_one (by decide)]; rfl
theorem itoa_64 : Lib.itoa 64 = [54, 52] := by rw [show (64 : Int) = ((64 : Nat) : Int) from rfl, Lib.itoa_nonneg, Lib.decDigits_two (by decide) (by decide)]; rfl
theorem L3_text : textS L3 = [77, 32, 48, 32, 48, 32, 76, 32, 54, 52, 32, 48, 32, 90] := by
  have : wordsS L3 = [[77], [48], [48], [76], [54, 52], [48], [90]] := by
    simp [wordsS, L3, wordsOf, numsOf, letterB, countK, itoa_0, itoa_64]
  unfold textS
  rw [this]
  rfl

theorem of_ok {s : List UInt8} {l : List Sg} (h : ofS s = .ok l) (hs : s.length ≤ 1048576) (w : World) (hr : Rul w) (hg : 2 < w.heap.size) :
    Calls Tryd.prog 18 #[.string ⟨s.toArray⟩] w fun e w' => Bel w w' ∧ ∃ v, e = .returned (.tuple #[v, .int .i64 0, .int .i64 0]) ∧ SRow w' w.heap.size v l := (of_any s hs w hr hg).mono fun e w' hp => by
  unfold OfPost ParsePost at hp
  rw [h] at hp
  exact hp
theorem of_err {s : List UInt8} {a c : Int} (h : ofS s = .error (a, c)) (hs : s.length ≤ 1048576) (w : World) (hr : Rul w) (hg : 2 < w.heap.size) :
    Calls Tryd.prog 18 #[.string ⟨s.toArray⟩] w fun e w' => Bel w w' ∧ e = .returned (.tuple #[.slice none 0 0, .int .i64 a, .int .i64 c]) := (of_any s hs w hr hg).mono fun e w' hp => by
  unfold OfPost ParsePost at hp
  rw [h] at hp
  exact hp
theorem text_ok {l : List Sg} (hg : goodS l = true) (hl : ∀ s ∈ l, s.v.length = 6) (v : Value) (w : World) (h : SegRow w w.heap.size v l) (ht : Tab w) :
    Calls Tryd.prog 13 #[v] w fun e w' => Bel w w' ∧ e = .returned (.tuple #[.string ⟨(textS l).toArray⟩, .int .i64 0]) :=
  (text_any l hl (by have := (good_parts hg).2.1; omega) v w h ht).mono fun e w' hp => ⟨hp.1, by rw [hp.2, hg]; rfl⟩

set_option maxHeartbeats 4000000 in
set_option maxRecDepth 100000 in
theorem wakes_any (w : World) (hr : Rul w) (hg : 2 < w.heap.size) (ht : Tab w) : Calls Tryd.prog 12 #[] w fun e w' => e = .returned (.bool true) ∧ Bel w w' := by
  have H1 : Hid (∀ V, Bel w V → _) := fun V hb => of_ok L3_of (by decide) V (hb.rul hr) (Nat.lt_of_lt_of_le hg hb.size)
  have H2 : Hid (∀ V, Bel w V → _) := fun V hb => of_err bad_of (by decide) V (hb.rul hr) (Nat.lt_of_lt_of_le hg hb.size)
  have H3 : Hid (∀ V, Bel w V → _) := fun V hb => of_err far_of (by decide) V (hb.rul hr) (Nat.lt_of_lt_of_le hg hb.size)
  have H4 : Hid (∀ V v, Bel w V → SegRow V V.heap.size v L3 → Calls Tryd.prog 13 #[v] V fun e w' => Bel V w' ∧ e = .returned (.tuple #[.string ⟨#[77, 32, 48, 32, 48, 32, 76, 32, 54, 52, 32, 48, 32, 90]⟩, .int .i64 0])) := fun V v hb h => by
    have := text_ok L3_good L3_six v V h (hb.tab ht)
    rw [L3_text] at this
    exact this
  have H5 : Hid (∀ V v, SegRow V V.heap.size v L3 → Calls Tryd.prog 15 #[v] V fun e w' => e = .returned (.bool true) ∧ Bel V w') := fun V v h => by
    have := goodAll_any L3 L3_six (by decide) v V h
    rw [L3_good] at this
    exact this
  clear hr hg ht
  go_enter Tryd.func12, Tryd.ntmps12
  go_upto_region 2 with (first
    | (go_at_call 18; (with_reducible refine (H1.out _ (Bel.refl _)).mono ?_); rintro e w1 ⟨hb1, va, rfl, hs1⟩; have HB1 := Lib.hid hb1; have HS1 := Lib.hid (SRow.read hs1 L3_six); (obtain ⟨ap, ac, rfl, _⟩ := hs1.form); clear hb1 hs1))
  go_upto_region 3 with (first
    | (go_at_call 18; (with_reducible refine (H2.out _ HB1.out).mono ?_); rintro e w2 ⟨hb2, rfl⟩; have HB2 := Lib.hid (HB1.out.trans hb2); have HS2 := Lib.hid (HS1.out.bel hb2); clear hb2))
  go_upto_region 4 with (first
    | (go_at_call 18; (with_reducible refine (H3.out _ HB2.out).mono ?_); rintro e w3 ⟨hb3, rfl⟩; have HB3 := Lib.hid (HB2.out.trans hb3); have HS3 := Lib.hid (HS2.out.bel hb3); clear hb3))
  go_upto_region 5 with (first
    | (go_at_call 13; (with_reducible refine (H4.out _ _ HB3.out HS3.out).mono ?_); rintro e w4 ⟨hb4, rfl⟩; have HB4 := Lib.hid (HB3.out.trans hb4); have HS4 := Lib.hid (HS3.out.bel hb4); clear hb4))
  obtain ⟨bb, oo, cc, he, _, _, q0, q1, _⟩ := HS4.out.at (k := 1) (show L3[1]? = some ⟨2, [64, 0, 0, 0, 0, 0], 0⟩ from rfl)
  simp only [Value.slice.injEq] at he
  obtain ⟨rfl, _, rfl⟩ := he
  rw [show L3.length = 3 from rfl] at *
  go_wp2_with (first
    | (go_at_call 15; (with_reducible refine (H5.out _ _ HS4.out).mono ?_); rintro e w5 ⟨rfl, hb5⟩; have HB5 := Lib.hid (HB4.out.trans hb5); clear hb5))
  go_ret
  exact ⟨rfl, HB5.out⟩
end Go.Proofs.YtefajplbgmikdaaDoor
