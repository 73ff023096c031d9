/-
  PpmBack returns true for every input: what was handed in is what its file has; the file of what a file has is it. Condition: the three tables of Go's library that are listed read as the program's text lays them (the card ties them).
-/
import Derived.Test.YtokfbeikpbnpgaaDoorRowKit
import Derived.Deep.QuietTactic
import Derived.BigQuiet
namespace Go.Proofs.YtokfbeikpbnpgaaDoor
open Go.ChangeShapes Go.WideShapes Go.ChangeAt Go.WideMaps Go.WideElems Go.RowKit

theorem enc_zeros (a b : Int) (p : Option Addr) (c n : Nat) (xs : List Int) (w : World) (hn : xs.length = n) (hr : RB w p c xs) (ht : Tab w) (hl : n ≤ 140737488351232) (s : List Int × Int) (hs : encS a b xs = s) :
    Calls Tryd.prog 7 #[.int .i64 a, .int .i64 b, .slice p n c] w (EncPost s w) := by
  subst hn; subst hs
  exact enc_any a b p c xs w hr ht hl
/-- A row of bytes of the call's own. -/
def OwnB (w : World) (base : Nat) (v : Value) (k : Nat) : Prop := ∃ bs : List Int, bs.length = k ∧ w.ownsRow base 5 1 v k (bs.map (Value.int .u8)) ∧ ∀ x ∈ bs, 0 ≤ x ∧ x < 256
theorem OwnB.snoc {w : World} {base : Nat} {v : Value} {k : Nat} {bs : List Int} {x : Int} (hl : bs.length = k) (hr : ∀ x ∈ bs, 0 ≤ x ∧ x < 256) (h : w.ownsRow base 5 1 v (k + 1) (bs.map (Value.int .u8) ++ [.int .u8 x])) (h0 : 0 ≤ x) (h1 : x < 256) : OwnB w base v (k + 1) :=
  ⟨bs ++ [x], by simp [hl], by simpa using h, fun y hy => by
    rcases List.mem_append.1 hy with hy | hy
    · exact hr y hy
    · simp at hy; omega⟩

set_option maxHeartbeats 2000000 in
theorem back_any (m0 m1 s : Int) (pf : Option Addr) (cf : Nat) (fs : List Int) (h00 : 0 ≤ m0) (h01 : m0 ≤ 255) (h10 : 0 ≤ m1) (h11 : m1 ≤ 255) (w : World) (hf : RB w pf cf fs) (ht : Tab w) :
    Calls Tryd.prog 4 #[.agg #[.int .u8 m0, .int .u8 m1], .int .u8 s, .slice pf fs.length cf] w (TruePost w) := by
  by_cases hbig : 4000 < fs.length
  · have hd1 : decide (4000 < (fs.length : Int)) = true := decide_eq_true (by omega)
    have HT := Lib.hid ht
    clear hf ht
    go_enter Tryd.func4, Tryd.ntmps4
    go_wp2_with fail
    refine (wakes_any _ (Bel.tab ((Bel.refl w).alloc _) HT.out)).mono ?_
    rintro e w1 ⟨rfl, hb1⟩
    have HB1 := Lib.hid (Bel.then ((Bel.refl w).alloc _) hb1)
    clear hb1
    go_wp2
    go_ret
    exact ⟨rfl, HB1.out⟩
  have hd1 : decide (4000 < (fs.length : Int)) = false := decide_eq_false (by omega)
  have hfl : fs.length ≤ 140737488351232 := by omega
  have HF := Lib.hid hf
  have HT := Lib.hid ht
  clear hf ht hbig
  go_enter Tryd.func4, Tryd.ntmps4
  go_wp2_with fail
  have HW0 : Hid (Bel w (w.alloc (Obj.cells #[Value.int IntKind.u8 m0, Value.int IntKind.u8 m1] 36))) := (Bel.refl w).alloc _
  have hc0 : (w.alloc (Obj.cells #[Value.int IntKind.u8 m0, Value.int IntKind.u8 m1] 36)).cell? ⟨w.heap.size, 0, none⟩ = some (.int .u8 m0) := by rw [World.cell?_alloc_at _ _ _ _ rfl]; rfl
  have hc1 : (w.alloc (Obj.cells #[Value.int IntKind.u8 m0, Value.int IntKind.u8 m1] 36)).cell? ⟨w.heap.size, 1, none⟩ = some (.int .u8 m1) := by rw [World.cell?_alloc_at _ _ _ _ rfl]; rfl
  generalize w.alloc (Obj.cells #[Value.int IntKind.u8 m0, Value.int IntKind.u8 m1] 36) = w0 at HW0 hc0 hc1 ⊢
  generalize w.heap.size = B at hc0 hc1 ⊢
  go_quiet (fail)
  have HW1 : Hid (Bel w (w0.drewN nq)) := Bel.trans HW0.out ⟨rfl, rfl, rfl, Nat.le_refl _, fun _ _ => rfl⟩
  clear hc0 hc1
  generalize w0.drewN nq = W at HW1 ⊢
  obtain ⟨a, ha⟩ : ∃ a, m0 % 20 + 1 = a := ⟨_, rfl⟩
  obtain ⟨b, hb⟩ : ∃ b, m1 % 20 + 1 = b := ⟨_, rfl⟩
  have a1 : 1 ≤ a := by omega
  have a2 : a ≤ 20 := by omega
  have b1 : 1 ≤ b := by omega
  have b2 : b ≤ 20 := by omega
  have hab : 1 ≤ a * b ∧ a * b ≤ 20 * 20 :=
    ⟨by have := Int.mul_le_mul (a := 1) (b := 1) (c := a) (d := b) (by omega) (by omega) (by omega) (by omega); omega, Int.mul_le_mul (by omega) (by omega) (by omega) (by omega)⟩
  obtain ⟨N, hN⟩ : ∃ N : Nat, (N : Int) = 3 * a * b := ⟨(3 * a * b).toNat, by rw [Int.mul_assoc]; omega⟩
  have hN1 : 3 ≤ N ∧ N ≤ 1200 := by rw [Int.mul_assoc] at hN; omega
  have hw : wrap64 (3 * a * b) = (N : Int) := by rw [← hN]; unfold wrap64; omega
  have HNN := Lib.hid hN
  obtain ⟨i0, hi, hz0, hz1, hz2⟩ := info_parts info5
  simp only [ha, hb]
  clear hN hab ha hb
  go_wp2_with fail
  go_loopw [9, 10] (fun v i wr => ∃ k : Nat, i = .int .i64 k ∧ k ≤ N ∧ OwnB wr W.heap.size v k ∧ Bel W wr) (fun _ i _ => N - (intOf i).toNat)
  case atStart => exact ⟨0, rfl, by omega, ⟨[], rfl, World.ownsRow_nil _ _ _ _, by simp⟩, Bel.refl _⟩
  case round =>
    obtain ⟨k, rfl, hk, ⟨bs, hbl, hown, hrg⟩, hbel⟩ := hrel
    have HO := Lib.hid hown
    have HRG := Lib.hid hrg
    have HBEL := Lib.hid hbel
    have HBL := Lib.hid hbl
    clear hown hrg hbel hbl
    by_cases hlt : k < N
    · have hq1 : k + 1 ≤ maxLen := by unfold maxLen; omega
      have hq2 : (k + 1) * 1 ≤ 140737488355328 := by omega
      go_wp2_with (first
        | (at_builtin; (refine wpList_append_own _ rfl _ _ 23 rfl W.heap.size 5 i0 (.int .u8 0) 1 1 Tryd.underlying23 hi hz0 hz1 hz2 rfl (by decide) _ _ _ rfl (HO.out.alloc _) ⟨wr.heap.size, 0, none⟩ 1 1 _ rfl rfl (cell_one_new _ _ _) (by simp [Value.oneCell']) hq1 hq2 (Nat.le_trans (Below.size HBEL.out) (by simp)) ?_); intro v5 w5 hown5 hg5 _; have HO5 := Lib.hid (OwnB.snoc HBL.out HRG.out hown5 (by omega) (by omega)); have HBEL5 := Lib.hid (Bel.at (HBEL.out.alloc _) (Nat.le_refl _) ((Below.refl _ _).grown hg5 (Nat.le_trans (Below.size HBEL.out) (by simp)) (fun k hk => (HO.out.lt k hk).1))); clear hown5 hg5))
      go_roundw
      case rel => exact ⟨k + 1, by go_num, by omega, HO5.out, HBEL5.out⟩
      case measure => simp [intOf]; omega
    · obtain rfl : k = N := by omega
      obtain ⟨p1, c1, rfl, hRb⟩ := RB.own HO.out HRG.out
      have HRb := Lib.hid hRb
      clear hRb
      have hbl2 : bs.length ≤ 140737488351232 := by rw [HBL.out]; omega
      go_wp2_with (first
        | (at_builtin; (refine wpList_append_copy rfl _ _ 23 rfl Tryd.underlying23 info5 _ rfl (heap_alloc_new _ _) p1 c1 bs rfl (Bel.rb ((Bel.refl _).alloc _) HRb.out) hbl2 ?_); intro p2 c2 w2 hR2 hb2; have HR2 := Lib.hid hR2; have HBEL2 := Lib.hid (Bel.at ((Bel.refl wr).alloc _) (Nat.le_refl _) hb2); clear hR2 hb2))
      have HTr : Hid (Tab wr) := HBEL.out.tab (HW1.out.tab HT.out)
      have HA : Hid (Side a) := ⟨a1, by omega⟩
      have HB : Hid (Side b) := ⟨b1, by omega⟩
      obtain ⟨F, hF⟩ : ∃ F, nums (headL a b) ++ bs = F := ⟨_, rfl⟩
      have HES : Hid (encS a b bs = (F, 0)) := by
        unfold Hid encS; rw [if_pos ⟨HA.out, HB.out⟩, if_pos (by rw [HBL.out]; exact HNN.out), hF]
      have HDF : Hid (DecS F a b bs 0) := .inl ⟨rfl, HA.out, HB.out, hF.symm, by rw [HBL.out]; exact HNN.out⟩
      have hFl : F.length ≤ 140737488351232 := by
        have := headL_length HA.out HB.out
        rw [← hF, List.length_append, nums_length, HBL.out]; omega
      clear hF
      refine (enc_zeros a b p2 c2 bs.length bs w2 rfl HR2.out (HBEL2.out.tab HTr.out) hbl2 _ HES.out).mono ?_
      rintro e w3 ⟨p3, c3, rfl, hR3, hb3⟩
      have HR3 : Hid (RB w3 p3 c3 F) := hR3
      have HBEL3 := Lib.hid (HBEL2.out.then hb3)
      clear hR3 hb3
      dsimp only
      go_wp2_with fail
      refine (pdec_any p3 c3 F w3 HR3.out hFl (HBEL3.out.tab HTr.out)).mono ?_
      rintro e w4 ⟨a', b', p4, c4, zs, q, rfl, hD, hR4, hb4⟩
      obtain ⟨rfl, rfl, rfl, rfl⟩ := hD.one HDF.out
      have HR4 := Lib.hid hR4
      have HBEL4 := Lib.hid (HBEL3.out.then hb4)
      have HRb4 : Hid (RB w4 p1 c1 zs) := HBEL4.out.rb HRb.out
      have HF4 : Hid (RB w4 pf cf fs) := HBEL4.out.rb (HBEL.out.rb (HW1.out.rb HF.out))
      have HT4 : Hid (Tab w4) := HBEL4.out.tab HTr.out
      clear hR4 hb4 hD
      have kc : ∀ (p : Option Addr) (c : Nat) (xs : List Int), RB w4 p c xs → (convert 23 9 (.slice p xs.length c)).run Tryd.prog w4 = .ok (.string (strOfNums xs)) w4 := fun p c xs h => by
        have := convert_take h xs.length (Nat.le_refl _) c
        rwa [List.take_length] at this
      have k1 := kc p1 c1 zs HRb4.out
      have k4 := kc p4 c4 zs HR4.out
      clear kc
      go_wp2_with (first
        | (at_builtin; (refine wpList_append_copy rfl _ _ 23 rfl Tryd.underlying23 info5 _ rfl (heap_alloc_new _ _) pf cf fs rfl (Bel.rb ((Bel.refl _).alloc _) HF4.out) hfl ?_); intro p5 c5 w5 hR5 hb5; have HR5 := Lib.hid hR5; have HBEL5 := Lib.hid (Bel.at ((Bel.refl w4).alloc _) (Nat.le_refl _) hb5); clear hR5 hb5))
      clear k1 k4
      have HT5 : Hid (Tab w5) := HBEL5.out.tab HT4.out
      refine (pdec_any p5 c5 fs w5 HR5.out hfl HT5.out).mono ?_
      rintro e w6 ⟨a6, b6, p6, c6, ys, q, rfl, hD6, hR6, hb6⟩
      have HR6 := Lib.hid hR6
      have HBEL6 := Lib.hid (HBEL5.out.then hb6)
      have HT6 : Hid (Tab w6) := HBEL6.out.tab HT4.out
      have HF6 : Hid (RB w6 pf cf fs) := HBEL6.out.rb HF4.out
      have HALL : Hid (Bel w w6) := HW1.out.trans (Bel.trans HBEL.out (Bel.trans HBEL4.out HBEL6.out))
      clear hR6 hb6
      rcases hD6 with ⟨rfl, hI⟩ | ⟨rfl, rfl, rfl, rfl, _⟩
      · have HES2 : Hid (encS a6 b6 ys = (fs, 0)) := by
          unfold Hid encS; rw [if_pos ⟨hI.1, hI.2.1⟩, if_pos hI.2.2.2, ← hI.2.2.1]
        have hyl : ys.length ≤ 140737488351232 := by
          have := congrArg List.length hI.2.2.1
          rw [List.length_append] at this
          omega
        clear hI
        go_wp2_with fail
        refine (enc_zeros a6 b6 p6 c6 ys.length ys w6 rfl HR6.out HT6.out hyl _ HES2.out).mono ?_
        rintro e w7 ⟨p7, c7, rfl, hR7, hb7⟩
        have HR7 : Hid (RB w7 p7 c7 fs) := hR7
        have HBEL7 := Lib.hid (Bel.then (Bel.refl w6) hb7)
        have HF7 : Hid (RB w7 pf cf fs) := HBEL7.out.rb HF6.out
        have HT7 : Hid (Tab w7) := HBEL7.out.tab HT6.out
        clear hR7 hb7
        dsimp only
        have kc : ∀ (p : Option Addr) (c : Nat) (xs : List Int), RB w7 p c xs → (convert 23 9 (.slice p xs.length c)).run Tryd.prog w7 = .ok (.string (strOfNums xs)) w7 := fun p c xs h => by
          have := convert_take h xs.length (Nat.le_refl _) c
          rwa [List.take_length] at this
        have k7 := kc p7 c7 fs HR7.out
        have kf := kc pf cf fs HF7.out
        clear kc
        go_wp2_with fail
        refine (wakes_any _ HT7.out).mono ?_
        rintro e w8 ⟨rfl, hb8⟩
        have HB8 := Lib.hid (HALL.out.trans (Bel.then HBEL7.out hb8))
        clear hb8
        go_wp2
        go_ret
        exact ⟨by simp, HB8.out⟩
      · go_wp2_with fail
        refine (wakes_any _ HT6.out).mono ?_
        rintro e w8 ⟨rfl, hb8⟩
        have HB8 := Lib.hid (HALL.out.then hb8)
        clear hb8
        go_wp2
        go_ret
        exact ⟨by simp, HB8.out⟩

theorem cells36 : Tryd.prog.cellsOf 36 = 2 := by kernel_rfl
theorem opened2 {H : Type} {enc : TypeId × Value → H} {W : World} {base : Nat} {v : Value} {d0 : DataW H} {p : List MemPlace} (hv : Value.okWide Tryd.prog W .any base 36 v)
    (h0 : DataW.Trod enc Tryd.prog W 0 (fun _ => true) true 36 v d0 p) : ∃ n0 n1 : Int, v = .agg #[.int .u8 n0, .int .u8 n1] ∧ (0 ≤ n0 ∧ n0 ≤ 255) ∧ (0 ≤ n1 ∧ n1 ≤ 255) := by
  simp only [Value.okWide, Tryd.underlying36] at hv
  obtain ⟨cs, rfl, hsz, _⟩ := hv
  obtain ⟨fuel, hf⟩ := h0
  obtain ⟨xs, m, hm, hx, hl, hn, hel⟩ := DataW.trod_array Tryd.underlying36 hf
  rw [cells36] at hsz
  match cs, hsz with
  | ⟨[c0, c1]⟩, _ =>
    have e0 := hel 0 (by decide)
    have e1 := hel 1 (by decide)
    simp [Value.cells, cells5] at e0 e1
    obtain ⟨y0, hy0⟩ : ∃ y, xs[0]? = some y := ⟨xs[0]'(by omega), by simp⟩
    obtain ⟨y1, hy1⟩ : ∃ y, xs[1]? = some y := ⟨xs[1]'(by omega), by simp⟩
    rw [hy0] at e0
    rw [hy1] at e1
    obtain ⟨a, ea, _, wa⟩ := DataW.trod_int Tryd.underlying5 e0
    obtain ⟨b, eb, _, wb⟩ := DataW.trod_int Tryd.underlying5 e1
    simp at ea eb
    exact ⟨a, b, by rw [ea, eb], bounds_u8 wa, bounds_u8 wb⟩
theorem readB : ∀ t ∈ Tryd.f4.params.toList, Tryd.prog.readableRec t = true ∧ t < Tryd.prog.types.size := by
  rw [Tryd.params4]
  intro t ht
  have hall : ([36, 5, 23].all fun u => Tryd.prog.readableRec u && decide (u < Tryd.prog.types.size)) = true := by kernel_rfl
  have := List.all_eq_true.1 hall t (by simpa using ht)
  simpa using this

set_option maxRecDepth 100000 in
theorem ppmBack_lifted (os : Os) (started : os.Started) (H : Type) (enc : TypeId × Value → H) :
    ReturnsInHanded {} Tryd.checked os 4 .any (fun w args => (Rows.ppmBackSpec.pre enc Tryd.prog Tryd.f4 [] false w args ∧ laidMetH Tryd.prog lay w) ∧ sizedMet enc Tryd.prog Tryd.f4 (OpenSpec.ofChange Rows.ppmBackSpec) false w args)
      (Rows.ppmBackSpec.post enc Tryd.prog Tryd.f4 false true false false) := by
  refine returnsInHanded_of_change_and (C := Tryd.checked) (X := fun w _ => laidMetH Tryd.prog lay w) (fun _ _ _ hh h => h.of_heap hh) own started (by kernel_rfl) Tryd.func4
    (ChangeSpec.witness_shaped (enc := enc) (C := Tryd.checked) (os := os) (X := fun w _ => laidMetH Tryd.prog lay w) false (World.doorLaid Tryd.prog 400 os) #[.agg #[.int .u8 0, .int .u8 0], .int .u8 0, .slice none 0 0] 8 rfl (World.shaped_of_RefB (by kernel_rfl) (by kernel_rfl)) (by kernel_rfl) (by kernel_rfl) (by kernel_rfl) (door_met os _)) ?_
  intro W base args ds gs before hval0 hW _ _ hL _
  have hval : ∀ (j : Nat) t v, Tryd.f4.params[j]? = some t → args[j]? = some v → Value.okWide Tryd.prog W .any base t v := hval0
  have hW' := hW
  obtain ⟨p, q, hA0, hV, rfl, hfz, hnd⟩ := hW
  have hA : DataW.TrodAll enc Tryd.prog W 0 (fun _ => true) true Tryd.f4.params.toList args.toList ds p := hA0
  rw [Tryd.params4] at hA hval
  obtain ⟨v0, v1, v2, d0, d1, d2, p0, p1, p2, rfl, rfl, rfl, h0, h1, h2⟩ := trodAll_three hA
  obtain ⟨rfl, rfl⟩ := trodVars_none hV
  obtain ⟨n0, n1, rfl, b0, b1⟩ := opened2 (hval 0 36 v0 rfl rfl) h0
  obtain ⟨s, rfl, rfl, rfl, _⟩ := open_int Tryd.underlying5 (hval 1 5 v1 rfl rfl) h1
  obtain ⟨a2, len2, cap2, rfl⟩ := okWide_slice Tryd.underlying23 (hval 2 23 v2 rfl rfl)
  obtain ⟨fs, rfl, hf⟩ := opened h2
  refine (back_any n0 n1 s a2 cap2 fs b0.1 b0.2 b1.1 b1.2 W hf (tab_of hL)).mono fun e W' ⟨he, hw⟩ => ?_
  subst he
  exact ⟨_, rfl, law_post laidOut rfl hW' readB (by kernel_rfl) Tryd.underlying4 rfl hw⟩

theorem ppmBack_holds : Rows.PpmBackSaid :=
  OpenClaim.holds_of_wide 4 Tryd.f4 rfl rfl rfl rfl rfl rfl rfl ⟨rfl, rfl, rfl, rfl, rfl⟩ rfl rfl rfl rfl rfl (by kernel_rfl) Tryd.func4 (by kernel_rfl)
    (of_decide_eq_true (by kernel_rfl)) (by unfold Func.isWrapper; first | (rw [if_pos (by decide +kernel)]; kernel_rfl) | (rw [if_neg (by decide +kernel)]; exact ⟨rfl, rfl⟩))
    (fun os started H enc _ => ppmBack_lifted os started H enc)

/-- THE TIED CARD. -/
theorem ppmBack_card : Rows.PpmBackCardSaid :=
  Claim7.holds_tied_plain_at .later [] [.data, .data, .data] true (true, "cf2896a65fdd45d3d2ce2c2f9d52e4b1daef6a630336dd8a6eac9f5485ed8d8d") false
    ppmBack_holds (fun _ h => by cases h) (by kernel_rfl) (fun _ h => by cases h) ppmBack_row_tie rfl ⟨rfl, rfl⟩ (by kernel_rfl) rfl
    (fun f fn hf hfn => by
      obtain rfl : f = 4 := Option.some.inj ((show Tryd.prog.funcNamed "gesso/gessolaw29.PpmBack" = some 4 by kernel_rfl).symm.trans hf) |>.symm
      obtain rfl : fn = Tryd.f4 := (Option.some.inj (Tryd.func4.symm.trans hfn)).symm
      exact ⟨by kernel_rfl, fun j t ht => by
        rw [Tryd.params4] at ht
        have hm : t ∈ [36, 5, 23] := by simpa using Array.mem_of_getElem? ht
        have hall : ([36, 5, 23].all fun u => !Tryd.prog.wantsStandIn u) = true := by kernel_rfl
        exact (show Tryd.prog.wantsStandIn t = false by simpa using List.all_eq_true.1 hall t hm)⟩)
    (by kernel_rfl)
#print axioms ppmBack_card
end Go.Proofs.YtokfbeikpbnpgaaDoor
