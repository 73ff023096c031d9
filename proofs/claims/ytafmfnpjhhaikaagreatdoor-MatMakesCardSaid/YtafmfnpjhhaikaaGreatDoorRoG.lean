/-
  For every six whole numbers the law MatMakes answers true. Conditions: none but the row's own (the tables that the program's text lays).
-/
import Derived.Test.YtafmfnpjhhaikaaGreatDoorZat
import Derived.Test.YtafmfnpjhhaikaaGreatDoorZbc
namespace Go.Proofs.YtafmfnpjhhaikaaGreatDoor
open Go.ChangeShapes Go.WideShapes Go.ChangeAt Go.WideMaps Go.WideElems Go.RowKit Go.ChangeMaps Go.Deep

theorem cells6 : Tryz.prog.cellsOf 92 = 6 := by kernel_rfl
theorem cellsI64 : Tryz.prog.cellsOf 2 = 1 := by kernel_rfl
theorem six_split {α : Type} {L : List α} (hl : L.length = 6) : ∃ a b c d e f, L = [a, b, c, d, e, f] := by
  match L, hl with
  | [a, b, c, d, e, f], _ => exact ⟨a, b, c, d, e, f, rfl⟩
set_option maxRecDepth 100000 in
theorem opened_i6 {H : Type} {enc : TypeId × Value → H} {W : World} {r : Reach} {base : Nat} {v : Value} {d : DataW H} {p : List MemPlace} (h : DataW.Trod enc Tryz.prog W 0 (fun _ => true) true 92 v d p) (hv : Value.okWide Tryz.prog W r base 92 v) :
    ∃ a b c d e f : Int, v = .agg #[.int .i64 a, .int .i64 b, .int .i64 c, .int .i64 d, .int .i64 e, .int .i64 f] ∧ fitsB a = true ∧ fitsB b = true ∧ fitsB c = true ∧ fitsB d = true ∧ fitsB e = true ∧ fitsB f = true := by
  simp only [Value.okWide, Tryz.underlying92] at hv
  obtain ⟨cs, rfl, -⟩ := hv
  obtain ⟨n, hn⟩ := h
  obtain ⟨xs, m, _, _, hl, hxl, hx⟩ := DataW.trod_array Tryz.underlying92 hn
  rw [cells6] at hl
  change cs.toList.length = 6 at hl
  have hg : ∀ i, i < 6 → ∃ z : Int, ((cs.toList.drop (i * 1)).take 1) = [.int .i64 z] ∧ fitsB z = true := fun i hi => by
    have h1 := hx i hi
    rw [cellsI64] at h1
    change DataW.trod enc Tryz.prog W 0 (fun _ => true) true m 2 ((cs.toList.drop (i * 1)).take 1) = _ at h1
    have h2 : ∃ y, DataW.trod enc Tryz.prog W 0 (fun _ => true) true m 2 ((cs.toList.drop (i * 1)).take 1) = some y := by
      rw [h1]
      exact ⟨_, List.getElem?_eq_getElem (by omega)⟩
    obtain ⟨y, h2⟩ := h2
    obtain ⟨z, hz, _, hw⟩ := DataW.trod_int Tryz.underlying2 h2
    exact ⟨z, hz, fits_to (bounds_i64 hw)⟩
  obtain ⟨a, b, c, d, e, f, hL⟩ := six_split hl
  rw [hL] at hg
  obtain ⟨z0, e0, f0⟩ := hg 0 (by decide)
  obtain ⟨z1, e1, f1⟩ := hg 1 (by decide)
  obtain ⟨z2, e2, f2⟩ := hg 2 (by decide)
  obtain ⟨z3, e3, f3⟩ := hg 3 (by decide)
  obtain ⟨z4, e4, f4⟩ := hg 4 (by decide)
  obtain ⟨z5, e5, f5⟩ := hg 5 (by decide)
  simp only [Nat.reduceMul, List.drop_zero, List.drop_succ_cons, List.take_succ_cons, List.take_zero, List.cons.injEq, and_true] at e0 e1 e2 e3 e4 e5
  subst e0 e1 e2 e3 e4 e5
  have hcs : cs = #[.int .i64 z0, .int .i64 z1, .int .i64 z2, .int .i64 z3, .int .i64 z4, .int .i64 z5] := by
    rw [← Array.toArray_toList (xs := cs), hL]
  exact ⟨_, _, _, _, _, _, by rw [hcs], f0, f1, f2, f3, f4, f5⟩

theorem readMatMakes : ∀ t ∈ Tryz.f9.params.toList, Tryz.prog.readableRec t = true ∧ t < Tryz.prog.types.size := by
  rw [Tryz.params9]
  intro t ht
  have hall : ([92].all fun u => Tryz.prog.readableRec u && decide (u < Tryz.prog.types.size)) = true := by kernel_rfl
  have := List.all_eq_true.1 hall t (by simpa using ht)
  simpa using this

set_option maxRecDepth 100000 in
theorem matMakes_lifted (os : Os) (started : os.Started) (H : Type) (enc : TypeId × Value → H) :
    ReturnsInHanded {} Tryz.checked os 9 .any (fun w args => (Rows.matMakesSpec.pre enc Tryz.prog Tryz.f9 [] false w args ∧ laidMetH Tryz.prog lay w) ∧ sizedMet enc Tryz.prog Tryz.f9 (OpenSpec.ofChange Rows.matMakesSpec) false w args)
      (Rows.matMakesSpec.post enc Tryz.prog Tryz.f9 false true false false) := by
  refine returnsInHanded_of_change_and (C := Tryz.checked) (X := fun w _ => laidMetH Tryz.prog lay w) (fun _ _ _ hh h => h.of_heap hh) own started (by kernel_rfl) Tryz.func9
    (ChangeSpec.witness_shaped (enc := enc) (C := Tryz.checked) (os := os) (X := fun w _ => laidMetH Tryz.prog lay w) false (World.laidAll Tryz.prog os lay) #[.agg #[.int .i64 0, .int .i64 0, .int .i64 0, .int .i64 0, .int .i64 0, .int .i64 0]] 8 (World.laidAll_os _ _ _) (World.shaped_of_ZipB (by kernel_rfl) (by kernel_rfl)) (by kernel_rfl) (by kernel_rfl) (by kernel_rfl)
      (by rw [MakeChecks.laidMetH_plain _ _ _ (by kernel_rfl)]; exact laidMet_laidAll _ (by kernel_rfl) (by kernel_rfl))) ?_
  intro W base args ds gs before hval0 hW _ _ hL _
  have hval : ∀ (j : Nat) t v, Tryz.f9.params[j]? = some t → args[j]? = some v → Value.okWide Tryz.prog W .any base t v := hval0
  have hW' := hW
  obtain ⟨p, q, hA0, hV, rfl, hfz, hnd⟩ := hW
  have hA : DataW.TrodAll enc Tryz.prog W 0 (fun _ => true) true Tryz.f9.params.toList args.toList ds p := hA0
  rw [Tryz.params9] at hA hval
  obtain ⟨v0, d0, rfl, rfl, h0⟩ := trodAll_one hA
  obtain ⟨rfl, rfl⟩ := trodVars_none hV
  obtain ⟨a, b, c, d, e, f, rfl, ha, hb, hc, hd, he, hf⟩ := opened_i6 h0 (hval 0 92 _ rfl rfl)
  refine (matMakes_any W ha hb hc hd he hf).mono fun e W' he => ?_
  obtain ⟨v, rfl, hw, rfl⟩ := he
  exact ⟨_, rfl, law_post laidOut rfl hW' readMatMakes (by kernel_rfl) Tryz.underlying4 rfl hw⟩

theorem matMakes_holds : Rows.MatMakesSaid :=
  OpenClaim.holds_of_wide 9 Tryz.f9 rfl rfl rfl rfl rfl rfl rfl ⟨rfl, rfl, rfl, rfl, rfl⟩ rfl rfl rfl rfl rfl (by kernel_rfl) Tryz.func9 (by kernel_rfl)
    (of_decide_eq_true (by kernel_rfl)) (by unfold Func.isWrapper; first | (rw [if_pos (by decide +kernel)]; kernel_rfl) | (rw [if_neg (by decide +kernel)]; exact ⟨rfl, rfl⟩))
    (fun os started H enc _ => matMakes_lifted os started H enc)

/-- THE TIED CARD. -/
theorem matMakes_card : Rows.MatMakesCardSaid :=
  Claim7.holds_tied_plain_at .later [] [.data, .pinned] true (true, "43f5f45e0aff461e842f63e6b450336b12f580a41396a01f78f14702bd15f11d") false
    matMakes_holds (fun _ h => by cases h) (by kernel_rfl) (fun _ h => by cases h) matMakes_row_tie rfl ⟨rfl, rfl⟩ (by kernel_rfl) rfl
    (fun f fn hf hfn => by
      obtain rfl : f = 9 := Option.some.inj ((show Tryz.prog.funcNamed "gesso/gessolaw09.MatMakes" = some 9 by kernel_rfl).symm.trans hf) |>.symm
      obtain rfl : fn = Tryz.f9 := (Option.some.inj (Tryz.func9.symm.trans hfn)).symm
      exact ⟨by kernel_rfl, fun j t ht => by
        rw [Tryz.params9] at ht
        have hm : t ∈ [92] := by simpa using Array.mem_of_getElem? ht
        have hall : ([92].all fun u => !Tryz.prog.wantsStandIn u) = true := by kernel_rfl
        exact (show Tryz.prog.wantsStandIn t = false by simpa using List.all_eq_true.1 hall t hm)⟩)
    (by kernel_rfl)
#print axioms matMakes_card
end Go.Proofs.YtafmfnpjhhaikaaGreatDoor
