/-
  The walk of the reference's Text on commands.
-/
import Derived.Test.YtefajplbgmikdaaDoorCmj27
import Derived.Test.YtefajplbgmikdaaDoorCmj18
import Derived.StillTailTactics
namespace Go.Proofs.YtefajplbgmikdaaDoor
open Go.RowKit

theorem textC_step {l : List Cm} {k : Nat} {c : Cm} (h : l[k]? = some c) : textC (l.take (k + 1)) = textC (l.take k) ++ lineC c := by
  obtain ⟨hlt, he⟩ := List.getElem?_eq_some_iff.1 h
  rw [List.take_succ_eq_append_getElem hlt, he]
  unfold textC
  rw [List.flatMap_append]
  simp
theorem textC_le (l : List Cm) (k : Nat) : (textC (l.take k)).length ≤ (textC l).length := by
  have : textC l = textC (l.take k) ++ textC (l.drop k) := by
    unfold textC
    rw [← List.flatMap_append, List.take_append_drop]
  rw [this, List.length_append]
  omega
def argsB (k : Nat) (n : List Int) : List UInt8 := n.flatMap fun x => 32 :: wordC k x
theorem args_step {k : Nat} {n : List Int} {j : Nat} {x : Int} (h : n[j]? = some x) : argsB k (n.take (j + 1)) = argsB k (n.take j) ++ 32 :: wordC k x := by
  obtain ⟨hlt, he⟩ := List.getElem?_eq_some_iff.1 h
  rw [List.take_succ_eq_append_getElem hlt, he]
  unfold argsB
  rw [List.flatMap_append]
  simp
theorem name_len {k : Int} (h1 : 1 ≤ k) (h2 : k ≤ 15) : (nameK k.toNat).length ≤ 6 := (words_fine k h1 h2).1.2.2
theorem bsz (l : List UInt8) : (⟨l.toArray⟩ : ByteArray).size = l.length := rfl
theorem good_word {first : Bool} {c : Cm} (hg : goodK first c = true) (hp : pathK c.kind.toNat = false) (hpa : c.path = []) (hw : wordsK c.kind.toNat ≠ []) :
    ∃ (x : Nat) (s : List UInt8), c.n = [(x : Int)] ∧ x < (wordsK c.kind.toNat).length ∧ (wordsK c.kind.toNat)[x]? = some s ∧ wordC c.kind.toNat x = s ∧ s.length ≤ 7 := by
  obtain ⟨⟨h1, h2, hf⟩, _, _⟩ := good_kinds hg
  rw [goodK_words h1 h2 hf hp hpa hw] at hg
  cases hn : c.n with
  | nil => rw [hn] at hg; cases hg
  | cons x r =>
    cases r with
    | cons y r => rw [hn] at hg; cases hg
    | nil =>
      rw [hn] at hg
      simp only [Bool.and_eq_true, decide_eq_true_eq] at hg
      obtain ⟨m, rfl⟩ : ∃ m : Nat, x = m := ⟨x.toNat, by omega⟩
      have hlt : m < (wordsK c.kind.toNat).length := by omega
      refine ⟨m, (wordsK c.kind.toNat)[m], rfl, hlt, List.getElem?_eq_getElem hlt, ?_, ?_⟩
      · unfold wordC
        rw [if_neg hw, List.getD, show ((m : Int)).toNat = m by omega, List.getElem?_eq_getElem hlt]
        rfl
      · exact ((words_fine c.kind h1 h2).2 _ (List.getElem_mem hlt)).2.2
set_option maxHeartbeats 8000000 in
set_option maxRecDepth 100000 in
theorem refTextC_any (l : List Cm) (v : Value) (w : World) (h : CmdRow w v l) (hok : ∀ c ∈ l, Ok1 c) (hn : l.length ≤ 1000000000) (hs : goodC l = true → (textC l).length ≤ 500000000) :
    Calls Tryd.prog 25 #[v] w fun e w' => Bel w w' ∧ e = .returned (.tuple #[.string ⟨(if goodC l = true then textC l else []).toArray⟩, .int .i64 (if goodC l = true then 0 else 11)]) := by
  have HGO := Lib.hid (refGoodC_any l v w h hok hn)
  have H := Lib.hid h
  have HOK := Lib.hid hok
  obtain ⟨p, cp, rfl, _, _⟩ := h
  clear hok
  go_enter Tryd.func25, Tryd.ntmps25
  cases hg : goodC l with
  | false =>
    rw [hg] at HGO
    clear hg hs
    go_wp2_with (first
      | (go_at_call 27; (with_reducible refine (HGO.out).mono ?_); rintro e w2 ⟨hb2, rfl⟩; have HB2 := Lib.hid hb2; clear hb2))
    go_ret2
    exact ⟨HB2.out, rfl⟩
  | true =>
    rw [hg] at HGO
    have HTL := Lib.hid (hs hg)
    have HGL := Lib.hid (good_L hg)
    clear hg hs
    go_upto_region 4 with (first
      | (go_at_call 27; (with_reducible refine (HGO.out).mono ?_); rintro e w2 ⟨hb2, rfl⟩; have HB2 := Lib.hid hb2; clear hb2))
    go_wp2
    go_loopg [4, 5] l.length (fun gf s4 s5 wx => ∃ (k : Nat) (q : ByteArray), s4 = .string q ∧ s5 = .int .i64 k ∧ k ≤ l.length ∧ l.length ≤ k + gf ∧ q.data.toList = textC (l.take k) ∧ Bel w wx)
    case atStart => exact ⟨0, ⟨#[]⟩, rfl, rfl, Nat.zero_le _, by omega, by simp [textC], HB2.out⟩
    case round =>
      obtain ⟨k, q, rfl, rfl, hkl, hkg, hq, hbl⟩ := hrel
      have HQ := Lib.hid hq
      have HBL := Lib.hid hbl
      have hqs : q.size ≤ 500000000 := by
        have h1 := congrArg List.length hq
        have h2 := textC_le l k
        have h3 := HTL.out
        have h4 : q.data.toList.length = q.size := rfl
        omega
      clear hq hbl
      by_cases hk : k < l.length
      · obtain ⟨gk', rfl⟩ : ∃ g, gk = g + 1 := ⟨gk - 1, by omega⟩
        obtain ⟨c, hc⟩ : ∃ c, l[k]? = some c := ⟨_, List.getElem?_eq_getElem hk⟩
        obtain ⟨fst, hgk⟩ := goodL_of HGL.out.2.1 c (List.mem_of_getElem? hc)
        obtain ⟨p', cp', he, _, hrow⟩ := H.out
        simp only [Value.slice.injEq] at he
        obtain ⟨rfl, _, rfl⟩ := he
        obtain ⟨b, o, nv, pv, rfl, ⟨q0, q1, q2, q3⟩, hnum, hseg, h6⟩ := hrow k c hc
        replace q0 := HBL.out.cell q0
        replace q1 := HBL.out.cell q1
        replace q2 := HBL.out.cell q2
        replace q3 := HBL.out.cell q3
        obtain ⟨na, nc, hnv⟩ := num_form hnum
        obtain ⟨pa, pc, hpv⟩ := segrow_form hseg
        subst hnv hpv
        obtain ⟨V, hV⟩ : ∃ V, wr.alloc (.cells #[.int .i64 c.kind, .slice na c.n.length nc, .slice pa c.path.length pc, .int .i64 c.place] 73) = V := ⟨_, rfl⟩
        have hWV : Bel wr V := hV ▸ (Bel.refl wr).alloc _
        obtain ⟨R, hR⟩ : ∃ R, wr.heap.size = R := ⟨_, rfl⟩
        have hTV : V.heap[R]? = some (.cells #[.int .i64 c.kind, .slice na c.n.length nc, .slice pa c.path.length pc, .int .i64 c.place] 73 (0, 0)) := hR ▸ hV ▸ heap_alloc_new _ _
        have HTV := Lib.hid hTV
        have HBV := Lib.hid (HBL.out.trans hWV)
        have HNV := Lib.hid (hnum.bel HBV.out)
        have HSV := Lib.hid (hseg.bel HBV.out)
        have HH6 := Lib.hid h6
        have HOKC := Lib.hid (HOK.out c (List.mem_of_getElem? hc))
        have HST := Lib.hid (textC_step hc)
        have HGK := Lib.hid hgk
        clear hWV hTV hc hrow hnum hseg h6 hgk
        obtain ⟨kd, n, path, pl⟩ := c
        dsimp only at *
        obtain ⟨⟨hk1, hk2, _⟩, hsm, hcase⟩ := good_kinds HGK.out
        dsimp only at hk1 hk2 hsm hcase
        have HSM := Lib.hid hsm
        have hwr : wordR kd = nameK kd.toNat := by unfold wordR; rw [if_pos ⟨hk1, hk2⟩]
        have HWD := Lib.hid (fun X => refWord_any kd X)
        rw [hwr] at HWD
        have hnl := name_len hk1 hk2
        obtain ⟨NB, hNB⟩ : ∃ NB : ByteArray, (⟨(nameK kd.toNat).toArray⟩ : ByteArray) = NB := ⟨_, rfl⟩
        have hnbs : NB.size ≤ 6 := by rw [← hNB, bsz]; exact hnl
        have HNB : Hid (NB.data.toList = nameK kd.toNat) := by rw [← hNB]; rfl
        rw [hNB] at HWD
        have HIP := Lib.hid (fun X => refIsPath_any kd hk1 hk2 X)
        have v0 : V.cell? ⟨R, 0, none⟩ = some (.int .i64 kd) := by rw [heap_cell HTV.out]; rfl
        have v1 : V.cell? ⟨R, 1, none⟩ = some (.slice na n.length nc) := by rw [heap_cell HTV.out]; rfl
        have v2 : V.cell? ⟨R, 2, none⟩ = some (.slice pa path.length pc) := by rw [heap_cell HTV.out]; rfl
        clear hNB hnl hwr hsm
        go_upto_region 8 with fail
        clear hV hR q0 q1 q2 q3
        rcases hcase with ⟨hp, hn0, hgs, hw⟩ | ⟨hp, hpa, hwv, hn17⟩
        · subst hn0
          rw [hp] at HIP
          have hpl : path.length ≤ 4096 := (good_parts hgs).2.1
          have HGT : Hid (∀ X, Bel V X → _) := fun X hX => refText_any path HH6.out (by omega) _ X (HSV.out.bel hX)
          rw [if_pos hgs, if_pos hgs] at HGT
          have htl := text_len hgs
          obtain ⟨PB, hPB⟩ : ∃ PB : ByteArray, (⟨(textS path).toArray⟩ : ByteArray) = PB := ⟨_, rfl⟩
          have hpbs : PB.size ≤ 500000000 := by rw [← hPB, bsz]; omega
          have HPB : Hid (PB.data.toList = textS path) := by rw [← hPB]; rfl
          rw [hPB] at HGT
          have HL : Hid (lineC ⟨kd, [], path, pl⟩ = nameK kd.toNat ++ (32 :: textS path) ++ [10]) := by unfold Hid lineC; rw [if_pos hp]; simp
          clear hp hgs hw htl hPB
          go_wp2_with (first
            | (go_at_call 43; (with_reducible refine (HWD.out _).mono ?_); rintro e w3 ⟨rfl, hb3⟩; have x0 := hb3.cell v0; have x1 := hb3.cell v1; have x2 := hb3.cell v2; have HB3 := Lib.hid (HBV.out.trans hb3); have HV3 := Lib.hid hb3; clear hb3 v0 v1 v2)
            | (go_at_call 44; (with_reducible refine (HIP.out _).mono ?_); rintro e w4 ⟨rfl, rfl⟩)
            | (go_at_call 14; (with_reducible refine (HGT.out _ HV3.out).mono ?_); rintro e w5 ⟨hb5, rfl⟩; have HB5 := Lib.hid (HB3.out.trans hb5); clear hb5))
          go_roundg gk'
          case measure => omega
          case rel =>
            refine ⟨k + 1, _, rfl, by go_num, by omega, by omega, ?_, HB5.out⟩
            rw [HST.out, HL.out, ← HQ.out, ← HNB.out, ← HPB.out]
            simp
        · subst hpa
          rw [hp] at HIP
          have hneq := fun (wx : World) (a : Option Addr) (n c : Nat) => run_neq_slice_nil_any (P := Tryd.prog) wx 44 9 a n c 0 0 Tryd.underlying44
          have HCH := Lib.hid (fun X => refChoice_any kd hk1 hk2 X)
          have HL : Hid (lineC ⟨kd, n, [], pl⟩ = nameK kd.toNat ++ argsB kd.toNat n ++ [10]) := by unfold Hid lineC argsB; rw [hp]; simp
          by_cases hw : wordsK kd.toNat = []
          · have HW := Lib.hid hw
            have HWC : Hid (∀ x, wordC kd.toNat x = Lib.itoa x) := fun x => by unfold wordC; rw [if_pos hw]
            obtain ⟨m, hm⟩ : ∃ m, n.length = m := ⟨_, rfl⟩
            have HM := Lib.hid hm
            rw [hm] at v1 hn17
            clear hp hwv hw hm
            go_upto_region 15 with (first
              | (go_at_call 43; (with_reducible refine (HWD.out _).mono ?_); rintro e w3 ⟨rfl, hb3⟩; have x0 := hb3.cell v0; have x1 := hb3.cell v1; have x2 := hb3.cell v2; have HB3 := Lib.hid (HBV.out.trans hb3); have HV3 := Lib.hid hb3; clear hb3 v0 v1 v2)
              | (go_at_call 44; (with_reducible refine (HIP.out _).mono ?_); rintro e w4 ⟨rfl, rfl⟩)
              | (go_at_call 45; (with_reducible refine (HCH.out _).mono ?_); rintro e w5 ⟨v5, rfl, hv5, hb5⟩; obtain rfl := choice_nil HW.out hv5; have y0 := hb5.cell x0; have y1 := hb5.cell x1; have y2 := hb5.cell x2; have HB5 := Lib.hid (HB3.out.trans hb5); have HV5 := Lib.hid (HV3.out.trans hb5); clear hb5 hv5 x0 x1 x2))
            clear HCH HIP HWD
            go_wp2
            go_loopg [4, 10] m (fun gf s4 s10 wx => ∃ (j : Nat) (Q : ByteArray), s4 = .string Q ∧ s10 = .int .i64 j ∧ j ≤ m ∧ m ≤ j + gf ∧ Q.data.toList = textC (l.take k) ++ nameK kd.toNat ++ argsB kd.toNat (n.take j) ∧ Q.size ≤ 500000006 + 12 * j ∧ Bel w5 wx)
            case atStart =>
              refine ⟨0, _, rfl, rfl, Nat.zero_le _, by omega, ?_, by simp; omega, Bel.refl _⟩
              rw [← HQ.out, ← HNB.out]
              simp [argsB]
            case round =>
              obtain ⟨j, Q, rfl, rfl, hjm, hjg, hQ, hQs, hbx⟩ := hrel
              have HQQ := Lib.hid hQ
              have HBX := Lib.hid hbx
              have z0 := hbx.cell y0
              have z1 := hbx.cell y1
              clear hQ hbx
              by_cases hj : j < m
              · obtain ⟨gj, rfl⟩ : ∃ g, gk = g + 1 := ⟨gk - 1, by omega⟩
                obtain ⟨x, hx⟩ : ∃ x, n[j]? = some x := ⟨_, List.getElem?_eq_getElem (by rw [HM.out]; exact hj)⟩
                have HA := Lib.hid (args_step (k := kd.toNat) hx)
                have hsx := HSM.out x (List.mem_of_getElem? hx)
                have h11 := itoa_short hsx
                obtain ⟨nb, no, nc', he, _, r0⟩ := (HNV.out.bel (HV5.out.trans HBX.out)).at hx
                simp only [Value.slice.injEq] at he
                obtain ⟨rfl, _, rfl⟩ := he
                have HDE := Lib.hid (fun X => refDecC_any x hsx X)
                obtain ⟨DB, hDB⟩ : ∃ DB : ByteArray, (⟨(Lib.itoa x).toArray⟩ : ByteArray) = DB := ⟨_, rfl⟩
                have hdbs : DB.size ≤ 11 := by rw [← hDB, bsz]; exact h11
                have HDB : Hid (DB.data.toList = wordC kd.toNat x) := by unfold Hid; rw [HWC.out, ← hDB]
                rw [hDB] at HDE
                clear hx hsx h11 hDB
                go_wp2_with (first
                  | (go_at_call 46; (with_reducible refine (HDE.out _).mono ?_); rintro e w8 ⟨rfl, hb8⟩; have HB8 := Lib.hid (HBX.out.trans hb8); clear hb8))
                go_roundg gj
                case measure => omega
                case rel =>
                  refine ⟨j + 1, _, rfl, by go_num, by omega, by omega, ?_, by simp [bz1]; omega, HB8.out⟩
                  rw [HA.out, ← HDB.out, ← List.append_assoc, ← HQQ.out]
                  simp
              · obtain rfl : j = m := by omega
                go_wp2
                go_roundg gk'
                case measure => omega
                case rel =>
                  refine ⟨k + 1, _, rfl, by go_num, by omega, by omega, ?_, HB5.out.trans HBX.out⟩
                  have h1 := HQQ.out
                  rw [show n.take j = n from List.take_of_length_le (by rw [HM.out]; omega)] at h1
                  rw [HST.out, HL.out, ← List.append_assoc, ← List.append_assoc, ← h1]
                  simp
          · obtain ⟨x, ws, hnx, hxm, hws, hwc, hw7⟩ := good_word HGK.out hp rfl hw
            dsimp only at hnx hxm hws hwc
            subst hnx
            obtain ⟨m, hm⟩ : ∃ m, (wordsK kd.toNat).length = m := ⟨_, rfl⟩
            have hm3 : m ≤ 3 := by rw [← hm]; unfold wordsK; (repeat' split) <;> decide
            rw [hm] at hxm
            obtain ⟨SB, hSB⟩ : ∃ SB : ByteArray, (⟨ws.toArray⟩ : ByteArray) = SB := ⟨_, rfl⟩
            have hsbs : SB.size ≤ 7 := by rw [← hSB, bsz]; exact hw7
            have HA : Hid (argsB kd.toNat [(x : Int)] = 32 :: SB.data.toList) := by
              unfold Hid argsB
              rw [← hSB]
              simp [hwc]
            have HW := Lib.hid hw
            have HM := Lib.hid hm
            have HWS := Lib.hid hws
            have HSB := Lib.hid hSB
            obtain ⟨nb, no, nc', he, _, r0⟩ := HNV.out.at (j := 0) (x := (x : Int)) rfl
            simp only [Value.slice.injEq] at he
            obtain ⟨rfl, _, rfl⟩ := he
            rw [Nat.add_zero] at r0
            dsimp only [List.length_cons, List.length_nil] at v1
            clear hp hwv hw hm hws hwc hw7 hSB hn17
            go_wp2_with (first
              | (go_at_call 43; (with_reducible refine (HWD.out _).mono ?_); rintro e w3 ⟨rfl, hb3⟩; have x0 := hb3.cell v0; have x1 := hb3.cell v1; have x2 := hb3.cell v2; have HB3 := Lib.hid (HBV.out.trans hb3); have HV3 := Lib.hid hb3; clear hb3 v0 v1 v2)
              | (go_at_call 44; (with_reducible refine (HIP.out _).mono ?_); rintro e w4 ⟨rfl, rfl⟩)
              | (go_at_call 45; (with_reducible refine (HCH.out _).mono ?_); rintro e w5 ⟨v5, rfl, hv5, hb5⟩; obtain ⟨g5, rfl, hcw⟩ := choice_row HW.out HM.out hv5; have y0 := hb5.cell x0; have y1 := hb5.cell x1; have y2 := hb5.cell x2; have s0 := (HV3.out.trans hb5).cell r0; have s1 := hcw x ws HWS.out; rw [HSB.out] at s1; have HB5 := Lib.hid (HB3.out.trans hb5); clear hb5 hv5 hcw x0 x1 x2))
            go_roundg gk'
            case measure => omega
            case rel =>
              refine ⟨k + 1, _, rfl, by go_num, by omega, by omega, ?_, HB5.out⟩
              rw [HST.out, HL.out, HA.out, ← HQ.out, ← HNB.out]
              simp
      · obtain rfl : k = l.length := by omega
        have HE : Hid ((⟨(textC l).toArray⟩ : ByteArray) = q) := by
          have h1 := HQ.out
          rw [List.take_length] at h1
          unfold Hid
          rw [← h1]
        go_wp2
        go_ret2
        exact ⟨HBL.out, by rw [← HE.out]; rfl⟩
end Go.Proofs.YtefajplbgmikdaaDoor

/-
  The walk of the law CmdTexts.
-/
namespace Go.Proofs.YtefajplbgmikdaaDoor
open Go.RowKit

/-- Both texts' answers, by one name. -/
theorem textsC_named (l : List Cm) (hok : ∀ c ∈ l, Ok1 c) (hn : l.length ≤ 1000000000) (hs : goodC l = true → (textC l).length ≤ 500000000) : ∃ (tb : ByteArray) (E : Int) (G : Bool),
    (∀ v w, CmdRow w v l → Tab w → Calls Tryd.prog 24 #[v] w fun e w' => Bel w w' ∧ e = .returned (.tuple #[.string tb, .int .i64 E])) ∧
    (∀ v w, CmdRow w v l → Calls Tryd.prog 25 #[v] w fun e w' => Bel w w' ∧ e = .returned (.tuple #[.string tb, .int .i64 E])) ∧
    (∀ v w, CmdRow w v l → Calls Tryd.prog 26 #[v] w fun e w' => Bel w w' ∧ e = .returned (.bool G)) ∧
    (∀ v w, CmdRow w v l → Calls Tryd.prog 27 #[v] w fun e w' => Bel w w' ∧ e = .returned (.bool G)) := by
  refine ⟨⟨(if goodC l = true then textC l else []).toArray⟩, if goodC l = true then 0 else 11, goodC l, fun v w h ht => (textCmds_any l v w h hok hn hs ht).mono fun e w' hp => ⟨hp.1, ?_⟩, fun v w h => refTextC_any l v w h hok hn hs, fun v w h => goodCmds_any l v w h hok hn, fun v w h => refGoodC_any l v w h hok hn⟩
  rw [hp.2]
  by_cases hg : goodC l = true
  · rw [if_pos hg, if_pos hg, if_pos hg]; rfl
  · rw [if_neg hg, if_neg hg, if_neg hg]

set_option maxHeartbeats 8000000 in
set_option maxRecDepth 100000 in
theorem cmdTexts_any (l : List Cm) (hn : l.length ≤ 9223372036854775807) (v : Value) (w : World) (h : CmdRow w v l) (hb : Base w) :
    Calls Tryd.prog 8 #[v] w fun e w' => e = .returned (.bool true) ∧ Bel w w' := by
  have H := Lib.hid h
  have HB := Lib.hid hb
  have HWK : Hid (∀ V, Bel w V → _) := fun V h => wakesC_any (hb.on h)
  obtain ⟨p, c, rfl⟩ := h.form
  have HFA := Lib.hid (fair_any l _ w H.out hn)
  clear hb h
  go_enter Tryd.func8, Tryd.ntmps8
  cases hfa : fairS l with
  | false =>
    rw [hfa] at HFA
    clear hfa
    go_wp2_with (first
      | (go_at_call 22; (with_reducible refine (HFA.out).mono ?_); rintro e w1 ⟨rfl, hb1⟩; have HB1 := Lib.hid hb1; clear hb1)
      | (go_at_call 23; (with_reducible refine (HWK.out _ HB1.out).mono ?_); rintro e w2 ⟨rfl, hb2⟩; have HB2 := Lib.hid (HB1.out.trans hb2); clear hb2))
    exact bodyPost_ret (v := .bool true) (by simp [results, Tryd.results8, go_sem]) rfl ⟨rfl, HB2.out⟩
  | true =>
  have hfo := fair_ok hfa
  rw [hfa] at HFA
  have hok : ∀ c ∈ l, Ok1 c := fun c hc => by have := hfo.1 c hc; exact ⟨by omega, by omega⟩
  have h60 : l.length ≤ 60 := hfo.2
  obtain ⟨tb, E, G, hT1, hT2, hT3, hT4⟩ := textsC_named l hok (by omega) (fun hg => by have := fair_len hg hfa; omega)
  have HT1 := Lib.hid hT1
  have HT2 := Lib.hid hT2
  have HT3 := Lib.hid hT3
  have HT4 := Lib.hid hT4
  have hGG : (G == G) = true := by simp
  clear hT1 hT2 hT3 hT4 hfa hok hfo hn
  go_upto_region 3 with (first
    | (go_at_call 22; (with_reducible refine (HFA.out).mono ?_); rintro e w1 ⟨rfl, hb1⟩; have HB1 := Lib.hid hb1; clear hb1))
  go_upto_region 4 with (first
    | (go_at_call 24; (with_reducible refine (HT1.out _ _ (H.out.bel HB1.out) (HB.out.on HB1.out).tab).mono ?_); rintro e w2 ⟨hb2, rfl⟩; have HB2 := Lib.hid (HB1.out.trans hb2); clear hb2))
  go_upto_region 5 with (first
    | (go_at_call 25; (with_reducible refine (HT2.out _ _ (H.out.bel HB2.out)).mono ?_); rintro e w3 ⟨hb3, rfl⟩; have HB3 := Lib.hid (HB2.out.trans hb3); clear hb3))
  go_wp2_with (first
    | (go_at_call 26; (with_reducible refine (HT3.out _ _ (H.out.bel HB3.out)).mono ?_); rintro e w5 ⟨hb5, rfl⟩; have HB5 := Lib.hid (HB3.out.trans hb5); clear hb5)
    | (go_at_call 27; (with_reducible refine (HT4.out _ _ (H.out.bel HB5.out)).mono ?_); rintro e w6 ⟨hb6, rfl⟩; have HB6 := Lib.hid (HB5.out.trans hb6); clear hb6)
    | (go_at_call 23; (with_reducible refine (HWK.out _ HB6.out).mono ?_); rintro e w8 ⟨rfl, hb8⟩; have HB8 := Lib.hid (HB6.out.trans hb8); clear hb8))
  exact bodyPost_ret (v := .bool true) (by simp [results, Tryd.results8, go_sem]) rfl ⟨rfl, HB8.out⟩
end Go.Proofs.YtefajplbgmikdaaDoor
