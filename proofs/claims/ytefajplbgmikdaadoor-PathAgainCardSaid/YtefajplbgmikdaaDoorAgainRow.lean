/-
  For every six numbers, in small letters and in capital ones, the law PathAgain answers true and leaves them as they were. Conditions: none but the row's own (the tables that the program's text lays).
-/
import Derived.Test.YtefajplbgmikdaaDoorLawRow
import Derived.Test.YtefajplbgmikdaaDoorLawF
namespace Go.Proofs.YtefajplbgmikdaaDoor
open Go.ChangeShapes Go.WideShapes Go.ChangeAt Go.WideMaps Go.WideElems Go.RowKit Go.ChangeMaps

theorem cellsArr6 : Tryd.prog.cellsOf 46 = 6 := by kernel_rfl
theorem cellsI16_6 : Tryd.prog.cellsOf 41 = 1 := by kernel_rfl
set_option maxRecDepth 100000 in
theorem openedA6 {H : Type} {enc : TypeId × Value → H} {W : World} {base : Nat} {v : Value} {d0 : DataW H} {p : List MemPlace} (hv : Value.okWide Tryd.prog W .any base 46 v)
    (h0 : DataW.Trod enc Tryd.prog W 0 (fun _ => true) true 46 v d0 p) : ∃ z0 z1 z2 z3 z4 z5 : Int, v = .agg #[.int .i16 z0, .int .i16 z1, .int .i16 z2, .int .i16 z3, .int .i16 z4, .int .i16 z5] ∧ dOk z0 ∧ dOk z1 ∧ dOk z2 ∧ dOk z3 ∧ dOk z4 ∧ dOk z5 := by
  simp only [Value.okWide, Tryd.underlying46] at hv
  obtain ⟨cs, rfl, hsz, _⟩ := hv
  obtain ⟨fuel, hf⟩ := h0
  obtain ⟨xs, m, hm, hx, hl, hn, hel⟩ := DataW.trod_array Tryd.underlying46 hf
  rw [cellsArr6] at hsz
  match cs, hsz with
  | ⟨[c0, c1, c2, c3, c4, c5]⟩, _ =>
    have e0 := hel 0 (by decide)
    have e1 := hel 1 (by decide)
    have e2 := hel 2 (by decide)
    have e3 := hel 3 (by decide)
    have e4 := hel 4 (by decide)
    have e5 := hel 5 (by decide)
    simp [Value.cells, cellsI16_6] at e0 e1 e2 e3 e4 e5
    obtain ⟨y0, hy0⟩ : ∃ y, xs[0]? = some y := ⟨xs[0]'(by omega), by simp⟩
    rw [hy0] at e0
    obtain ⟨a0, ea0, _, wa0⟩ := DataW.trod_int Tryd.underlying41 e0
    simp at ea0
    obtain ⟨y1, hy1⟩ : ∃ y, xs[1]? = some y := ⟨xs[1]'(by omega), by simp⟩
    rw [hy1] at e1
    obtain ⟨a1, ea1, _, wa1⟩ := DataW.trod_int Tryd.underlying41 e1
    simp at ea1
    obtain ⟨y2, hy2⟩ : ∃ y, xs[2]? = some y := ⟨xs[2]'(by omega), by simp⟩
    rw [hy2] at e2
    obtain ⟨a2, ea2, _, wa2⟩ := DataW.trod_int Tryd.underlying41 e2
    simp at ea2
    obtain ⟨y3, hy3⟩ : ∃ y, xs[3]? = some y := ⟨xs[3]'(by omega), by simp⟩
    rw [hy3] at e3
    obtain ⟨a3, ea3, _, wa3⟩ := DataW.trod_int Tryd.underlying41 e3
    simp at ea3
    obtain ⟨y4, hy4⟩ : ∃ y, xs[4]? = some y := ⟨xs[4]'(by omega), by simp⟩
    rw [hy4] at e4
    obtain ⟨a4, ea4, _, wa4⟩ := DataW.trod_int Tryd.underlying41 e4
    simp at ea4
    obtain ⟨y5, hy5⟩ : ∃ y, xs[5]? = some y := ⟨xs[5]'(by omega), by simp⟩
    rw [hy5] at e5
    obtain ⟨a5, ea5, _, wa5⟩ := DataW.trod_int Tryd.underlying41 e5
    simp at ea5
    exact ⟨a0, a1, a2, a3, a4, a5, by rw [ea0, ea1, ea2, ea3, ea4, ea5], bounds_i16 wa0, bounds_i16 wa1, bounds_i16 wa2, bounds_i16 wa3, bounds_i16 wa4, bounds_i16 wa5⟩

theorem readPathAgain : ∀ t ∈ Tryd.f7.params.toList, Tryd.prog.readableRec t = true ∧ t < Tryd.prog.types.size := by
  rw [Tryd.params7]
  intro t ht
  have hall : ([46, 4].all fun u => Tryd.prog.readableRec u && decide (u < Tryd.prog.types.size)) = true := by kernel_rfl
  have := List.all_eq_true.1 hall t (by simpa using ht)
  simpa using this

set_option maxRecDepth 100000 in
theorem pathAgain_lifted (os : Os) (started : os.Started) (H : Type) (enc : TypeId × Value → H) :
    ReturnsInHanded {} Tryd.checked os 7 .any (fun w args => (Rows.pathAgainSpec.pre enc Tryd.prog Tryd.f7 [] false w args ∧ laidMetH Tryd.prog lay w) ∧ sizedMet enc Tryd.prog Tryd.f7 (OpenSpec.ofChange Rows.pathAgainSpec) false w args)
      (Rows.pathAgainSpec.post enc Tryd.prog Tryd.f7 false true false false) := by
  refine returnsInHanded_of_change_and (C := Tryd.checked) (X := fun w _ => laidMetH Tryd.prog lay w) (fun _ _ _ hh h => h.of_heap hh) own started (by kernel_rfl) Tryd.func7
    (ChangeSpec.witness_shaped (enc := enc) (C := Tryd.checked) (os := os) (X := fun w _ => laidMetH Tryd.prog lay w) false (World.doorLaid Tryd.prog 400 os) #[.agg #[.int .i16 0, .int .i16 0, .int .i16 0, .int .i16 0, .int .i16 0, .int .i16 0], .bool false] 8 rfl (World.shaped_of_RefB (by kernel_rfl) (by kernel_rfl)) (by kernel_rfl) (by kernel_rfl) (by kernel_rfl) (door_met os _)) ?_
  intro W base args ds gs before hval0 hW _ _ hL _
  have hval : ∀ (j : Nat) t v, Tryd.f7.params[j]? = some t → args[j]? = some v → Value.okWide Tryd.prog W .any base t v := hval0
  have hW' := hW
  obtain ⟨p, q, hA0, hV, rfl, hfz, hnd⟩ := hW
  have hA : DataW.TrodAll enc Tryd.prog W 0 (fun _ => true) true Tryd.f7.params.toList args.toList ds p := hA0
  rw [Tryd.params7] at hA hval
  obtain ⟨v0, v1, d0, d1, p0, p1, rfl, rfl, rfl, h0, h1⟩ := trodAll_two hA
  obtain ⟨rfl, rfl⟩ := trodVars_none hV
  obtain ⟨z0, z1, z2, z3, z4, z5, rfl, k0, k1, k2, k3, k4, k5⟩ := openedA6 (hval 0 46 v0 rfl rfl) h0
  obtain ⟨s, rfl, rfl, rfl⟩ := open_bool Tryd.underlying4 (hval 1 4 v1 rfl rfl) h1
  refine (pathAgain_any z0 z1 z2 z3 z4 z5 s k0 k1 k2 k3 k4 k5 W (base_of hL)).mono fun e W' ⟨he, hw⟩ => ?_
  subst he
  exact ⟨_, rfl, law_post laidOut rfl hW' readPathAgain (by kernel_rfl) Tryd.underlying4 rfl hw⟩

theorem pathAgain_holds : Rows.PathAgainSaid :=
  OpenClaim.holds_of_wide 7 Tryd.f7 rfl rfl rfl rfl rfl rfl rfl ⟨rfl, rfl, rfl, rfl, rfl⟩ rfl rfl rfl rfl rfl (by kernel_rfl) Tryd.func7 (by kernel_rfl)
    (of_decide_eq_true (by kernel_rfl)) (by unfold Func.isWrapper; first | (rw [if_pos (by decide +kernel)]; kernel_rfl) | (rw [if_neg (by decide +kernel)]; exact ⟨rfl, rfl⟩))
    (fun os started H enc _ => pathAgain_lifted os started H enc)

/-- THE TIED CARD. -/
theorem pathAgain_card : Rows.PathAgainCardSaid :=
  Claim7.holds_tied_plain_at .later [] [.data, .data, .data, .data] true (true, "487eb1cdc786b1a0920b0646a0d8287a4da6ae1c09800932899b2e2c2ad925d6") false
    pathAgain_holds (fun _ h => by cases h) (by kernel_rfl) (fun _ h => by cases h) pathAgain_row_tie rfl ⟨rfl, rfl⟩ (by kernel_rfl) rfl
    (fun f fn hf hfn => by
      obtain rfl : f = 7 := Option.some.inj ((show Tryd.prog.funcNamed "gesso/gessolaw11.PathAgain" = some 7 by kernel_rfl).symm.trans hf) |>.symm
      obtain rfl : fn = Tryd.f7 := (Option.some.inj (Tryd.func7.symm.trans hfn)).symm
      exact ⟨by kernel_rfl, fun j t ht => by
        rw [Tryd.params7] at ht
        have hm : t ∈ [46, 4] := by simpa using Array.mem_of_getElem? ht
        have hall : ([46, 4].all fun u => !Tryd.prog.wantsStandIn u) = true := by kernel_rfl
        exact (show Tryd.prog.wantsStandIn t = false by simpa using List.all_eq_true.1 hall t hm)⟩)
    (by kernel_rfl)
#print axioms pathAgain_card
end Go.Proofs.YtefajplbgmikdaaDoor
