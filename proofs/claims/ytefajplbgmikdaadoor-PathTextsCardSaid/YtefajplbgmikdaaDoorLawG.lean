/-
  The walk of the law PathTexts.
-/
import Derived.Test.YtefajplbgmikdaaDoorRefC
import Derived.Test.YtefajplbgmikdaaDoorCopy
namespace Go.Proofs.YtefajplbgmikdaaDoor
open Go.RowKit

/-- Both texts' answers, by one name. -/
theorem texts_named (l : List Sg) (hl : ∀ s ∈ l, s.v.length = 6) (hn : l.length < 4611686018427387904) : ∃ (tb : ByteArray) (E : Int) (G : Bool),
    (∀ v w, SegRow w w.heap.size v l → Tab w → Calls Tryd.prog 13 #[v] w fun e w' => Bel w w' ∧ e = .returned (.tuple #[.string tb, .int .i64 E])) ∧
    (∀ v w, SegRow w w.heap.size v l → Calls Tryd.prog 14 #[v] w fun e w' => Bel w w' ∧ e = .returned (.tuple #[.string tb, .int .i64 E])) ∧
    (∀ v w, SegRow w w.heap.size v l → Calls Tryd.prog 15 #[v] w fun e w' => e = .returned (.bool G) ∧ Bel w w') ∧
    (∀ v w, SegRow w w.heap.size v l → Calls Tryd.prog 16 #[v] w fun e w' => e = .returned (.bool G) ∧ Bel w w') := by
  refine ⟨⟨(if goodS l = true then textS l else []).toArray⟩, if goodS l = true then 0 else 11, goodS l, fun v w h ht => (text_any l hl hn v w h ht).mono fun e w' hp => ⟨hp.1, ?_⟩, fun v w h => refText_any l hl hn v w h, fun v w h => goodAll_any l hl hn v w h, fun v w h => (refGood_any l hl hn v w h).mono fun e w' hp => ⟨hp.1, hp.2 ▸ Bel.refl w⟩⟩
  rw [hp.2]
  by_cases hg : goodS l = true
  · rw [if_pos hg, if_pos hg, if_pos hg]; rfl
  · rw [if_neg hg, if_neg hg, if_neg hg]

set_option maxHeartbeats 4000000 in
set_option maxRecDepth 100000 in
theorem pathTexts_any (l : List Sg) (hl : ∀ s ∈ l, s.v.length = 6) (v : Value) (w : World) (h : SegRow w w.heap.size v l) (hb : Base w) :
    Calls Tryd.prog 3 #[v] w fun e w' => e = .returned (.bool true) ∧ Bel w w' := by
  have H := Lib.hid h
  have HL := Lib.hid hl
  have HB := Lib.hid hb
  have HWK : Hid (∀ V, Bel w V → _) := fun V h => wakes_base (hb.on h)
  obtain ⟨p, c, rfl, hc, _⟩ := h
  clear hl hb
  go_enter Tryd.func3, Tryd.ntmps3
  by_cases h300 : 300 < l.length
  · have h1 : decide ((300 : Int) < (l.length : Int)) = true := decide_eq_true (by omega)
    go_wp2_with (first
      | (go_at_call 12; (with_reducible refine (HWK.out _ (Bel.refl _)).mono ?_); rintro e w2 ⟨rfl, hb2⟩; have HB2 := Lib.hid hb2; clear hb2))
    go_ret
    exact ⟨rfl, HB2.out⟩
  have h1 : decide ((300 : Int) < (l.length : Int)) = false := decide_eq_false (by omega)
  obtain ⟨tb, E, G, hT1, hT2, hT3, hT4⟩ := texts_named l HL.out (by omega)
  have HT1 := Lib.hid hT1
  have HT2 := Lib.hid hT2
  have HT3 := Lib.hid hT3
  have HT4 := Lib.hid hT4
  have HSE : Hid (∀ V v1 v2, SegRow V V.heap.size v1 l → SegRow V V.heap.size v2 l → _) := fun V v1 v2 h1 h2 => segs_eq l HL.out (by omega) v1 v2 V h1 h2
  clear hT1 hT2 hT3 hT4
  go_upto_region 4 with (first
    | (at_builtin; (refine wpList_copy_segs rfl _ _ rfl w.heap.size rfl (heap_alloc_new _ _) p c _ l HL.out rfl (H.out.bel ((Bel.refl w).alloc _)) (by omega) ?_); intro p2 c2 w2 hR2 hb2; have HR2 := Lib.hid hR2; have HB2 : Hid (Bel w w2) := Below.trans ((Bel.refl w).alloc _) hb2; clear hR2 hb2))
  go_upto_region 5 with (first
    | (go_at_call 13; (with_reducible refine (HT1.out _ _ HR2.out (HB.out.on HB2.out).tab).mono ?_); rintro e w3 ⟨hb3, rfl⟩; have HB3 := Lib.hid (HB2.out.trans hb3); have HR3 := Lib.hid (HR2.out.bel hb3); clear hb3))
  go_upto_region 6 with (first
    | (go_at_call 14; (with_reducible refine (HT2.out _ _ (H.out.bel HB3.out)).mono ?_); rintro e w4 ⟨hb4, rfl⟩; have HB4 := Lib.hid (HB3.out.trans hb4); have HR4 := Lib.hid (HR3.out.bel hb4); clear hb4))
  go_wp2_with (first
    | (go_at_call 15; (with_reducible refine (HT3.out _ _ HR4.out).mono ?_); rintro e w5 ⟨rfl, hb5⟩; have HB5 := Lib.hid (HB4.out.trans hb5); have HR5 := Lib.hid (HR4.out.bel hb5); clear hb5)
    | (go_at_call 16; (with_reducible refine (HT4.out _ _ (H.out.bel HB5.out)).mono ?_); rintro e w6 ⟨rfl, hb6⟩; have HB6 := Lib.hid (HB5.out.trans hb6); have HR6 := Lib.hid (HR5.out.bel hb6); clear hb6)
    | (go_at_call 17; (with_reducible refine (HSE.out _ _ _ HR6.out (H.out.bel HB6.out)).mono ?_); rintro e w7 ⟨rfl, hb7⟩; have HB7 := Lib.hid (HB6.out.trans hb7); clear hb7)
    | (go_at_call 12; (with_reducible refine (HWK.out _ HB7.out).mono ?_); rintro e w8 ⟨rfl, hb8⟩; have HB8 := Lib.hid (HB7.out.trans hb8); clear hb8))
  go_ret
  exact ⟨rfl, HB8.out⟩
end Go.Proofs.YtefajplbgmikdaaDoor
