/-
  The walk of gessokeep.Cmds on two rows of the same commands.
-/
import Derived.Test.YtefajplbgmikdaaDoorCmj17
import Derived.Test.YtefajplbgmikdaaDoorCmj10
import Derived.StillTailTactics
namespace Go.Proofs.YtefajplbgmikdaaDoor
open Go.RowKit

set_option maxHeartbeats 4000000 in
set_option maxRecDepth 100000 in
theorem longs_q (l : List Int) (hn : l.length < 4611686018427387904) (v1 v2 : Value) (w : World) (h1 : NumRow w v1 l) (h2 : NumRow w v2 l) :
    Calls Tryd.prog 54 #[v1, v2] w fun e w' => e = .returned (.bool true) ∧ ∃ m, w' = w.drewN m := by
  have H1 := Lib.hid h1
  have H2 := Lib.hid h2
  obtain ⟨p1, c1, rfl, hc1, _⟩ := h1
  obtain ⟨p2, c2, rfl, hc2, _⟩ := h2
  have hne : ((l.length : Int) != (l.length : Int)) = false := by simp
  go_enter Tryd.func54, Tryd.ntmps54
  go_wp2
  go_loopg [5] l.length (fun gf i wx => ∃ k m : Nat, i = .int .i64 k ∧ k ≤ l.length ∧ l.length ≤ k + gf ∧ wx = w.drewN m)
  case atStart => exact ⟨0, 0, rfl, Nat.zero_le _, by omega, (World.drewN_zero w).symm⟩
  case round =>
    obtain ⟨k, m, rfl, hkl, hkg, hwm⟩ := hrel
    have HWM := Lib.hid hwm
    have HB : Hid (Bel w wr) := hwm ▸ (Bel.refl w).drewN m
    clear hwm
    by_cases hk : k < l.length
    · obtain ⟨gk', rfl⟩ : ∃ g, gk = g + 1 := ⟨gk - 1, by omega⟩
      obtain ⟨x, hx⟩ : ∃ x, l[k]? = some x := ⟨_, List.getElem?_eq_getElem hk⟩
      obtain ⟨b1, o1, cc1, he, _, q0⟩ := (H1.out.bel HB.out).at hx
      simp only [Value.slice.injEq] at he
      obtain ⟨rfl, _, rfl⟩ := he
      obtain ⟨b2, o2, cc2, he, _, r0⟩ := (H2.out.bel HB.out).at hx
      simp only [Value.slice.injEq] at he
      obtain ⟨rfl, _, rfl⟩ := he
      clear hx
      have hk1 : (x != x) = false := by simp
      go_wp2_with fail
      go_quiet (fail)
      go_wp2
      go_roundg gk'
      case measure => omega
      case rel => exact ⟨k + 1, m + nq, rfl, by omega, by omega, by rw [HWM.out, World.drewN_drewN]⟩
    · obtain rfl : k = l.length := by omega
      go_wp2
      go_ret
      exact ⟨rfl, m, HWM.out⟩
set_option maxHeartbeats 4000000 in
set_option maxRecDepth 100000 in
theorem segs_q (l : List Sg) (hl : ∀ s ∈ l, s.v.length = 6) (hn : l.length < 4611686018427387904) (v1 v2 : Value) (w : World) (h1 : SegRow w w.heap.size v1 l) (h2 : SegRow w w.heap.size v2 l) :
    Calls Tryd.prog 17 #[v1, v2] w fun e w' => e = .returned (.bool true) ∧ ∃ m, w' = w.drewN m := by
  have H1 := Lib.hid h1
  have H2 := Lib.hid h2
  have HL := Lib.hid hl
  obtain ⟨p1, c1, rfl, hc1, _⟩ := h1
  obtain ⟨p2, c2, rfl, hc2, _⟩ := h2
  clear hl
  have hne : ((l.length : Int) != (l.length : Int)) = false := by simp
  go_enter Tryd.func17, Tryd.ntmps17
  go_wp2
  go_loopg [5] l.length (fun gf i wx => ∃ k m : Nat, i = .int .i64 k ∧ k ≤ l.length ∧ l.length ≤ k + gf ∧ wx = w.drewN m)
  case atStart => exact ⟨0, 0, rfl, Nat.zero_le _, by omega, (World.drewN_zero w).symm⟩
  case round =>
    obtain ⟨k, m, rfl, hkl, hkg, hwm⟩ := hrel
    have HWM := Lib.hid hwm
    have HB : Hid (Bel w wr) := hwm ▸ (Bel.refl w).drewN m
    clear hwm
    by_cases hk : k < l.length
    · obtain ⟨gk', rfl⟩ : ∃ g, gk = g + 1 := ⟨gk - 1, by omega⟩
      obtain ⟨s, hs⟩ : ∃ s, l[k]? = some s := ⟨_, List.getElem?_eq_getElem hk⟩
      have h6 := HL.out s (List.mem_of_getElem? hs)
      obtain ⟨sk, sv, sw⟩ := s
      dsimp only at h6
      obtain ⟨v0, v1, v2, v3, v4, v5, rfl⟩ := six h6
      obtain ⟨b1, o1, cc1, he, _, _, q0, q1, q2, q3, q4, q5, q6, q7⟩ := (H1.out.bel HB.out).at hs
      simp only [Value.slice.injEq] at he
      obtain ⟨rfl, _, rfl⟩ := he
      obtain ⟨b2, o2, cc2, he, _, _, r0, r1, r2, r3, r4, r5, r6, r7⟩ := (H2.out.bel HB.out).at hs
      simp only [Value.slice.injEq] at he
      obtain ⟨rfl, _, rfl⟩ := he
      clear hs h6
      have hk1 : (sk != sk) = false := by simp
      have hw1 : (sw != sw) = false := by simp
      have harr := arr6_eq v0 v1 v2 v3 v4 v5
      go_wp2_with fail
      go_quiet (fail)
      go_wp2
      go_roundg gk'
      case measure => omega
      case rel => exact ⟨k + 1, m + nq, rfl, by omega, by omega, by rw [HWM.out, World.drewN_drewN]⟩
    · obtain rfl : k = l.length := by omega
      go_wp2
      go_ret
      exact ⟨rfl, m, HWM.out⟩
theorem strip_at {l1 l2 : List Cm} (hs : l1.map strip = l2.map strip) {k : Nat} {c1 : Cm} (h1 : l1[k]? = some c1) : ∃ c2, l2[k]? = some c2 ∧ c2.kind = c1.kind ∧ c2.n = c1.n ∧ c2.path = c1.path := by
  have h := congrArg (fun l => l[k]?) hs
  simp only [List.getElem?_map, h1, Option.map_some] at h
  obtain ⟨c2, h2, h3⟩ := Option.map_eq_some_iff.1 h.symm
  refine ⟨c2, h2, ?_⟩
  cases c1; cases c2
  simp only [strip, Prod.mk.injEq] at h3
  exact h3
set_option maxHeartbeats 8000000 in
set_option maxRecDepth 100000 in
theorem cmds_q (at_ : Bool) (l1 l2 : List Cm) (hs : l1.map strip = l2.map strip) (hat : at_ = true → l1 = l2) (hn : l1.length ≤ 1000000000) (hok : ∀ c ∈ l1, Ok1 c) (v1 v2 : Value) (w : World) (h1 : CmdRow w v1 l1) (h2 : CmdRow w v2 l2) :
    Calls Tryd.prog 29 #[v1, v2, .bool at_] w fun e w' => e = .returned (.bool true) ∧ ∃ m, w' = w.drewN m := by
  have H1 := Lib.hid h1
  have H2 := Lib.hid h2
  have HS := Lib.hid hs
  have HOK := Lib.hid hok
  have HAT := Lib.hid hat
  obtain ⟨p1, c1, rfl⟩ := h1.form
  obtain ⟨p2, c2, rfl⟩ := h2.form
  have hlen : l2.length = l1.length := by have := congrArg List.length hs; simp at this; omega
  rw [hlen] at H2 ⊢
  have HLEN := Lib.hid hlen
  have hne : ((l1.length : Int) != (l1.length : Int)) = false := by simp
  clear hs hok h1 h2 hat hlen
  go_enter Tryd.func29, Tryd.ntmps29
  go_wp2
  go_loopg [7] l1.length (fun gf i wx => ∃ k m : Nat, i = .int .i64 k ∧ k ≤ l1.length ∧ l1.length ≤ k + gf ∧ wx = w.drewN m)
  case atStart => exact ⟨0, 0, rfl, Nat.zero_le _, by omega, (World.drewN_zero w).symm⟩
  case round =>
    obtain ⟨k, m, rfl, hkl, hkg, hwm⟩ := hrel
    have HWM := Lib.hid hwm
    have HB : Hid (Bel w wr) := hwm ▸ (Bel.refl w).drewN m
    clear hwm
    by_cases hk : k < l1.length
    · obtain ⟨gk', rfl⟩ : ∃ g, gk = g + 1 := ⟨gk - 1, by omega⟩
      obtain ⟨x, hx⟩ : ∃ x, l1[k]? = some x := ⟨_, List.getElem?_eq_getElem hk⟩
      obtain ⟨y, hy, e1, e2, e3⟩ := strip_at HS.out hx
      have HPL : Hid (at_ = true → y.place = x.place) := fun ha => by
        rw [HAT.out ha, hy, Option.some.injEq] at hx
        rw [hx]
      have hxo := HOK.out x (List.mem_of_getElem? hx)
      obtain ⟨b1, o1, cc1, np1, nc1, pp1, pc1, he, ⟨q0, q1, q2, q3⟩, hn1, hs1, h61⟩ := (H1.out.bel HB.out).at hx
      simp only [Value.slice.injEq] at he
      obtain ⟨rfl, _, rfl⟩ := he
      have hcr2 := H2.out.bel HB.out
      rw [← HLEN.out] at hcr2
      obtain ⟨b2, o2, cc2, np2, nc2, pp2, pc2, he, ⟨r0, r1, r2, r3⟩, hn2, hs2, h62⟩ := hcr2.at hy
      simp only [Value.slice.injEq] at he
      obtain ⟨rfl, _, rfl⟩ := he
      obtain ⟨kd, n, path, pl⟩ := x
      obtain ⟨kd2, n2, path2, pl2⟩ := y
      dsimp only at *
      subst e1 e2 e3
      have HL1 : Hid (∀ j, Calls Tryd.prog 54 #[.slice np1 n2.length nc1, .slice np2 n2.length nc2] (wr.drewN j) fun e w' => e = .returned (.bool true) ∧ ∃ m, w' = (wr.drewN j).drewN m) := fun j =>
        longs_q n2 (by have := hxo.1; dsimp only at this; omega) _ _ _ (hn1.bel ((Bel.refl _).drewN _)) (hn2.bel ((Bel.refl _).drewN _))
      have HL2 : Hid (∀ j, Calls Tryd.prog 17 #[.slice pp1 path2.length pc1, .slice pp2 path2.length pc2] (wr.drewN j) fun e w' => e = .returned (.bool true) ∧ ∃ m, w' = (wr.drewN j).drewN m) := fun j =>
        segs_q path2 h61 (by have := hxo.2; dsimp only at this; omega) _ _ _ (hs1.bel ((Bel.refl _).drewN _)) (hs2.bel ((Bel.refl _).drewN _))
      clear hx hy hn1 hn2 hs1 hs2 h61 h62 hxo hcr2
      have hk1 : (kd2 != kd2) = false := by simp
      have hp1 : (pl != pl) = false := by simp
      cases at_ with
      | false =>
        go_wp2_with fail
        go_quiet (first
          | (go_at_call 54; exact Calls.quiet_of (HL1.out _))
          | (go_at_call 17; exact Calls.quiet_of (HL2.out _)))
        go_wp2
        go_roundg gk'
        case measure => omega
        case rel => exact ⟨k + 1, m + nq, rfl, by omega, by omega, by rw [HWM.out, World.drewN_drewN]⟩
      | true =>
        obtain rfl := HPL.out rfl
        go_wp2_with fail
        go_quiet (first
          | (go_at_call 54; exact Calls.quiet_of (HL1.out _))
          | (go_at_call 17; exact Calls.quiet_of (HL2.out _)))
        go_wp2
        go_roundg gk'
        case measure => omega
        case rel => exact ⟨k + 1, m + nq, rfl, by omega, by omega, by rw [HWM.out, World.drewN_drewN]⟩
    · obtain rfl : k = l1.length := by omega
      go_wp2
      go_ret
      exact ⟨rfl, m, HWM.out⟩
end Go.Proofs.YtefajplbgmikdaaDoor

/-
  The walk of the law CmdBack.
-/
namespace Go.Proofs.YtefajplbgmikdaaDoor
open Go.RowKit

theorem good_ok1 {l : List Cm} (hg : goodC l = true) : ∀ c ∈ l, Ok1 c := fun c hc => by
  obtain ⟨f, hf⟩ := goodL_of (good_L hg).2.1 c hc
  obtain ⟨_, _, hk⟩ := good_kinds hf
  rcases hk with ⟨_, h0, hs, _⟩ | ⟨_, h0, _, h17⟩
  · refine ⟨by rw [h0]; simp, ?_⟩
    have := (good_parts hs).2.1
    omega
  · exact ⟨by omega, by rw [h0]; simp⟩
theorem fair_ok {l : List Cm} (h : fairS l = true) : (∀ c ∈ l, c.n.length ≤ 100 ∧ c.path.length ≤ 100) ∧ l.length ≤ 60 := by
  unfold fairS at h
  simp only [Bool.and_eq_true, decide_eq_true_eq, List.all_eq_true] at h
  refine ⟨fun c hc => ?_, h.2⟩
  have := h.1 c hc
  unfold fair1 at this
  simp only [Bool.and_eq_true, decide_eq_true_eq] at this
  exact this
theorem flat_len {α : Type} {f : α → List UInt8} {m : Nat} : ∀ {l : List α}, (∀ x ∈ l, (f x).length ≤ m) → (l.flatMap f).length ≤ m * l.length
  | [], _ => by simp
  | x :: l, h => by
    have h1 := h x (by simp)
    have h2 := flat_len (l := l) (fun y hy => h y (by simp [hy]))
    rw [List.flatMap_cons, List.length_append, List.length_cons, Nat.mul_add]
    omega
theorem fair_len {l : List Cm} (hg : goodC l = true) (hf : fairS l = true) : (textC l).length ≤ 600000 := by
  obtain ⟨h1, h2⟩ := fair_ok hf
  have h3 : (textC l).length ≤ 9808 * l.length := flat_len fun c hc => by
    obtain ⟨f, hk⟩ := goodL_of (good_L hg).2.1 c hc
    have := line_len hk
    have := h1 c hc
    omega
  have : 9808 * l.length ≤ 9808 * 60 := Nat.mul_le_mul_left _ h2
  omega
theorem strip_ok1 {l l' : List Cm} (hs : l'.map strip = l.map strip) (h : ∀ c ∈ l, Ok1 c) : ∀ c ∈ l', Ok1 c := fun c hc => by
  obtain ⟨k, hk⟩ := List.mem_iff_getElem?.1 hc
  obtain ⟨c2, h2, _, e2, e3⟩ := strip_at hs hk
  have := h c2 (List.mem_of_getElem? h2)
  unfold Ok1 at this ⊢
  rw [e2, e3] at this
  exact this
/-- Text's answer, its parts named. -/
theorem textC_named (l : List Cm) (hok : ∀ c ∈ l, Ok1 c) (hn : l.length ≤ 1000000000) (hs : goodC l = true → (textC l).length ≤ 500000000) : ∃ (tb : ByteArray) (E : Int), (goodC l = true → tb = ⟨(textC l).toArray⟩ ∧ E = 0) ∧ (goodC l = false → tb = ⟨#[]⟩ ∧ E = 11) ∧
    ∀ v w, CmdRow w v l → Tab w → Calls Tryd.prog 24 #[v] w fun e w' => Bel w w' ∧ e = .returned (.tuple #[.string tb, .int .i64 E]) := by
  cases hg : goodC l with
  | true => exact ⟨⟨(textC l).toArray⟩, 0, fun _ => ⟨rfl, rfl⟩, fun h => (by cases h), fun v w h ht => (textCmds_any l v w h hok hn hs ht).mono fun e w' hp => ⟨hp.1, by rw [hp.2, hg]; rfl⟩⟩
  | false => exact ⟨⟨#[]⟩, 11, fun h => (by cases h), fun _ => ⟨rfl, rfl⟩, fun v w h ht => (textCmds_any l v w h hok hn hs ht).mono fun e w' hp => ⟨hp.1, by rw [hp.2, hg]; rfl⟩⟩

set_option maxHeartbeats 8000000 in
set_option maxRecDepth 100000 in
theorem cmdBack_any (l : List Cm) (hl : ∀ c ∈ l, ∀ s ∈ c.path, s.v.length = 6) (hn : l.length ≤ 9223372036854775807) (v : Value) (s : List UInt8) (w : World) (h : CmdRow w v l) (hb : Base w) :
    Calls Tryd.prog 9 #[v, .string ⟨s.toArray⟩] w fun e w' => e = .returned (.bool true) ∧ Bel w w' := by
  have H := Lib.hid h
  have HL := Lib.hid hl
  have HB := Lib.hid hb
  have HWK : Hid (∀ V, Bel w V → _) := fun V h => wakesC_any (hb.on h)
  obtain ⟨p, c, rfl⟩ := h.form
  have HFA := Lib.hid (fair_any l _ w H.out hn)
  have hsz : (⟨s.toArray⟩ : ByteArray).size = s.length := rfl
  obtain ⟨sb, hsb⟩ : ∃ sb : ByteArray, (⟨s.toArray⟩ : ByteArray) = sb := ⟨_, rfl⟩
  have HSB := Lib.hid hsb
  rw [hsb] at hsz ⊢
  clear hl hb hsb h
  go_enter Tryd.func9, Tryd.ntmps9
  cases hfa : fairS l with
  | false =>
    rw [hfa] at HFA
    clear hfa
    go_wp2_with (first
      | (go_at_call 22; (with_reducible refine (HFA.out).mono ?_); rintro e w1 ⟨rfl, hb1⟩; have HB1 := Lib.hid hb1; clear hb1)
      | (go_at_call 23; (with_reducible refine (HWK.out _ HB1.out).mono ?_); rintro e w2 ⟨rfl, hb2⟩; have HB2 := Lib.hid (HB1.out.trans hb2); clear hb2))
    exact bodyPost_ret (v := .bool true) (by simp [results, Tryd.results9, go_sem]) rfl ⟨rfl, HB2.out⟩
  | true =>
  have hfo := fair_ok hfa
  have HFO := Lib.hid hfo
  rw [hfa] at HFA
  by_cases h5000 : 5000 < s.length
  · have h2 : decide ((5000 : Int) < (s.length : Int)) = true := decide_eq_true (by omega)
    clear hfa
    go_wp2_with (first
      | (go_at_call 22; (with_reducible refine (HFA.out).mono ?_); rintro e w1 ⟨rfl, hb1⟩; have HB1 := Lib.hid hb1; clear hb1)
      | (go_at_call 23; (with_reducible refine (HWK.out _ HB1.out).mono ?_); rintro e w2 ⟨rfl, hb2⟩; have HB2 := Lib.hid (HB1.out.trans hb2); clear hb2))
    exact bodyPost_ret (v := .bool true) (by simp [results, Tryd.results9, go_sem]) rfl ⟨rfl, HB2.out⟩
  have h2 : decide ((5000 : Int) < (s.length : Int)) = false := decide_eq_false (by omega)
  have hok : ∀ c ∈ l, Ok1 c := fun c hc => by have := hfo.1 c hc; exact ⟨by omega, by omega⟩
  have h60 : l.length ≤ 60 := hfo.2
  obtain ⟨tb, E, hT1, hT2, hT3⟩ := textC_named l hok (by omega) (fun hg => by have := fair_len hg hfa; omega)
  have HTX : Hid (∀ w1, Bel w w1 → _) := fun w1 hb1 => hT3 _ w1 (H.out.bel hb1) (HB.out.on hb1).tab
  have HT1 := Lib.hid hT1
  have HT2 := Lib.hid hT2
  have HFL : Hid (goodC l = true → (textC l).length ≤ 600000) := fun hg => fair_len hg hfa
  have HOK := Lib.hid hok
  clear hT1 hT2 hT3 hfa hok hfo
  obtain ⟨N, hN⟩ : ∃ N, s.length = N := ⟨_, rfl⟩
  rw [hN] at hsz h2 h5000
  go_upto_region 4 with (first
    | (go_at_call 22; (with_reducible refine (HFA.out).mono ?_); rintro e w1 ⟨rfl, hb1⟩; have HB1 := Lib.hid hb1; clear hb1)
    | (go_at_call 24; (with_reducible refine (HTX.out _ HB1.out).mono ?_); rintro e w2 ⟨hb2, rfl⟩; have HB2 := Lib.hid (HB1.out.trans hb2); clear hb2))
  go_upto_if 33 with fail
  go_cut [] from 7 to 47 (fun wx => Bel w wx)
  case first =>
    cases hg : goodC l with
    | false =>
      have hE := (HT2.out hg).2
      have hE' : (E == 0) = false := by rw [hE]; rfl
      clear hg hE
      go_wp2
      go_meet
      exact HB2.out
    | true =>
      have hE := (HT1.out hg).2
      have hE' : (E == 0) = true := by rw [hE]; rfl
      obtain ⟨l', hp', hst⟩ := parse_text hg HL.out (by have := HFL.out hg; omega)
      have HPA := Lib.hid (parse_ok hp' w2 (HB.out.on HB2.out))
      rw [← (HT1.out hg).1] at HPA
      have HST := Lib.hid hst
      have hll : l'.length = l.length := by have := congrArg List.length hst; simpa using this
      have HLL := Lib.hid hll
      clear hg hE hp' hst hll
      go_upto_region 6 with (first
        | (go_at_call 28; (with_reducible refine (HPA.out).mono ?_); rintro e w3 ⟨hb3, ap, ac, rfl, hs3⟩; have HB3 := Lib.hid (HB2.out.trans hb3); have HS3 := Lib.hid hs3; clear hb3 hs3))
      have HSE := Lib.hid (cmds_q false l' l HST.out (fun e => by cases e) (by have := HLL.out; omega) (strip_ok1 HST.out HOK.out) _ _ w3 HS3.out (H.out.bel HB3.out))
      go_wp2_with (first
        | (go_at_call 29; (with_reducible refine (HSE.out).mono ?_); rintro e w4 ⟨rfl, m4, hm4⟩; have HB4 : Hid (Bel w w4) := hm4 ▸ HB3.out.drewN _; clear hm4))
      go_meet
      exact HB4.out
  case rest =>
  have HC := Lib.hid hcut
  clear hcut HB2 HTX HT1 HT2 H HFL HOK HFO HL
  obtain ⟨a, at_, ec, hp⟩ : ∃ a at_ ec, parseC s = (a, at_, ec) := ⟨_, _, _, rfl⟩
  obtain ⟨hg0, hg20, hga, hsg, hlen⟩ := parse_back (by omega) hp
  have HPA := Lib.hid (parse_ok hp wc (HB.out.on HC.out))
  rw [HSB.out] at HPA
  clear hp
  by_cases he : ec = 0
  · subst he
    have hg := hg0 rfl
    have hok := good_ok1 hg
    have hal : a.length ≤ 4096 := (good_L hg).2.2
    have h6 : ∀ c ∈ a, ∀ s ∈ c.path, s.v.length = 6 := fun c hc s hs => (hsg c hc s hs).1
    obtain ⟨b, hpb, hst⟩ := parse_text hg h6 (by omega)
    have hbl : b.length = a.length := by have := congrArg List.length hst; simpa using this
    have HTA : Hid (∀ V v, Bel w V → CmdRow V v a → _) := fun V v hV hr => textC_ok hg hok (by omega) (by omega) v V hr (HB.out.on hV)
    have HPB : Hid (∀ V, Bel w V → _) := fun V hV => parse_ok hpb V (HB.out.on hV)
    have HGD : Hid (∀ V v, Bel w V → CmdRow V v a → Calls Tryd.prog 26 #[v] V fun e w' => e = .returned (.bool true) ∧ Bel V w') := fun V v hV hr =>
      (goodCmds_any a v V hr hok (by omega)).mono fun e w' h => ⟨by rw [h.2, hg], h.1⟩
    have HCM : Hid (∀ V v1 v2, Bel w V → CmdRow V v1 b → CmdRow V v2 a → _) := fun V v1 v2 _ h1 h2 => cmds_q false b a hst (fun e => by cases e) (by omega) (strip_ok1 hst hok) v1 v2 V h1 h2
    clear hg0 hg20 hga hsg hg hok h6 hpb hst hbl
    go_upto_region 11 with (first
      | (go_at_call 28; (with_reducible refine (HPA.out).mono ?_); rintro e w3 ⟨hb3, ap, ac, rfl, hs3⟩; have HB3 := Lib.hid (HC.out.trans hb3); have HS3 := Lib.hid hs3; clear hb3 hs3))
    go_upto_region 12 with (first
      | (go_at_call 24; (with_reducible refine (HTA.out _ _ HB3.out HS3.out).mono ?_); rintro e w4 ⟨hb4, rfl⟩; have HB4 := Lib.hid (HB3.out.trans hb4); have HS4 := Lib.hid (HS3.out.bel hb4); clear hb4))
    go_upto_region 13 with (first
      | (go_at_call 28; (with_reducible refine (HPB.out _ HB4.out).mono ?_); rintro e w5 ⟨hb5, bp, bc, rfl, hs5⟩; have HB5 := Lib.hid (HB4.out.trans hb5); have HS5 := Lib.hid (HS4.out.bel hb5); have HR5 := Lib.hid hs5; clear hb5 hs5))
    go_wp2_with (first
      | (go_at_call 26; (with_reducible refine (HGD.out _ _ HB5.out HS5.out).mono ?_); rintro e w6 ⟨rfl, hb6⟩; have HB6 := Lib.hid (HB5.out.trans hb6); have HS6 := Lib.hid (HS5.out.bel hb6); have HR6 := Lib.hid (HR5.out.bel hb6); clear hb6)
      | (go_at_call 29; (with_reducible refine (HCM.out _ _ _ HB6.out HR6.out HS6.out).mono ?_); rintro e w7 ⟨rfl, m7, hm7⟩; have HB7 : Hid (Bel w w7) := hm7 ▸ HB6.out.drewN _; clear hm7)
      | (go_at_call 23; (with_reducible refine (HWK.out _ HB7.out).mono ?_); rintro e w8 ⟨rfl, hb8⟩; have HB8 := Lib.hid (HB7.out.trans hb8); clear hb8))
    exact bodyPost_ret (v := .bool true) (by simp [results, Tryd.results9, go_sem]) rfl ⟨rfl, HB8.out⟩
  · have he' : (ec != 0) = true := by simpa using he
    by_cases ha : a = []
    · subst ha
      by_cases h20 : ec = 20
      · subst h20
        clear hg0 hg20 hga hsg he he'
        go_wp2_with (first
          | (go_at_call 28; (with_reducible refine (HPA.out).mono ?_); rintro e w3 ⟨hb3, ap, ac, rfl, hs3⟩; have HB3 := Lib.hid (HC.out.trans hb3); have HS3 := Lib.hid hs3; clear hb3 hs3)
          | (go_at_call 23; (with_reducible refine (HWK.out _ HB3.out).mono ?_); rintro e w5 ⟨rfl, hb5⟩; have HB5 := Lib.hid (HB3.out.trans hb5); clear hb5))
        exact bodyPost_ret (v := .bool true) (by simp [results, Tryd.results9, go_sem]) rfl ⟨rfl, HB5.out⟩
      · have h20' : (ec != 20) = true := by simpa using h20
        clear hg0 hg20 hga hsg he
        go_wp2_with (first
          | (go_at_call 28; (with_reducible refine (HPA.out).mono ?_); rintro e w3 ⟨hb3, ap, ac, rfl, hs3⟩; have HB3 := Lib.hid (HC.out.trans hb3); have HS3 := Lib.hid hs3; clear hb3 hs3)
          | (go_at_call 23; (with_reducible refine (HWK.out _ HB3.out).mono ?_); rintro e w5 ⟨rfl, hb5⟩; have HB5 := Lib.hid (HB3.out.trans hb5); clear hb5))
        exact bodyPost_ret (v := .bool true) (by simp [results, Tryd.results9, go_sem]) rfl ⟨rfl, HB5.out⟩
    · have hz : ((a.length : Int) == 0) = false := beq_false_of_ne (by have := List.length_pos_iff.2 ha; omega)
      have h20' : (ec != 20) = true := by
        rcases hg20 he with h | h
        · simpa using h
        · exact absurd h ha
      have HGD : Hid (∀ V v, Bel w V → CmdRow V v a → Calls Tryd.prog 26 #[v] V fun e w' => e = .returned (.bool true) ∧ Bel w w') := fun V v hV hr => by
        rcases hga with h | hg
        · exact absurd h ha
        · exact (goodCmds_any a v V hr (good_ok1 hg) (by have := (good_L hg).2.2; omega)).mono fun e w' h => ⟨by rw [h.2, hg], hV.trans h.1⟩
      clear hg0 hg20 hga hsg he ha
      go_wp2_with (first
        | (go_at_call 28; (with_reducible refine (HPA.out).mono ?_); rintro e w3 ⟨hb3, ap, ac, rfl, hs3⟩; have HB3 := Lib.hid (HC.out.trans hb3); have HS3 := Lib.hid hs3; clear hb3 hs3)
        | (go_at_call 26; (with_reducible refine (HGD.out _ _ HB3.out HS3.out).mono ?_); rintro e w4 ⟨rfl, hb4⟩; have HB4 := Lib.hid hb4; clear hb4)
        | (go_at_call 23; (with_reducible refine (HWK.out _ HB4.out).mono ?_); rintro e w5 ⟨rfl, hb5⟩; have HB5 := Lib.hid (HB4.out.trans hb5); clear hb5))
      exact bodyPost_ret (v := .bool true) (by simp [results, Tryd.results9, go_sem]) rfl ⟨rfl, HB5.out⟩
end Go.Proofs.YtefajplbgmikdaaDoor
