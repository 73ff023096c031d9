/-
  The walk of path.Good.
-/
import Derived.Test.YtefajplbgmikdaaDoorGoodC
namespace Go.Proofs.YtefajplbgmikdaaDoor
open Go.RowKit

set_option maxRecDepth 100000 in
theorem contains_any (l : List Sg) (hl : ∀ s ∈ l, s.v.length = 6) (hn : l.length < 4611686018427387904) (v : Value) (w : World) (h : SegRow w w.heap.size v l) :
    Calls Tryd.prog 34 #[v, .func (.func 35) #[] #[]] w fun e w' => e = .returned (.bool (!l.all goodOne)) ∧ Bel w w' := by
  have hi := index_any l hl hn v w h
  rw [← idxS_neg]
  obtain ⟨p, c, rfl, hc, _⟩ := h
  generalize idxS l 0 = I at hi ⊢
  have HI := Lib.hid hi
  clear hi hl
  go_enter Tryd.func34, Tryd.ntmps34
  go_wp2_with (first
    | (go_at_call 57; (with_reducible refine (HI.out).mono ?_); rintro e w2 ⟨rfl, hb2⟩; have HB2 := Lib.hid hb2; clear hb2))
  go_ret
  exact ⟨rfl, HB2.out⟩
theorem noTwo_step {l : List Sg} {k : Nat} {a b : Sg} (ha : l[k]? = some a) (hb : l[k + 1]? = some b) : noTwo (l.drop k) = (!(decide (a.kind = 6) && decide (b.kind = 6)) && noTwo (l.drop (k + 1))) := by
  obtain ⟨h1, e1⟩ := List.getElem?_eq_some_iff.1 ha
  obtain ⟨h2, e2⟩ := List.getElem?_eq_some_iff.1 hb
  rw [List.drop_eq_getElem_cons h1, List.drop_eq_getElem_cons h2, e1, e2, noTwo]
theorem noTwo_end {l : List Sg} {k : Nat} (h : l.length = k + 1) : noTwo (l.drop k) = true := by
  have : (l.drop k).length = 1 := by simp; omega
  match h2 : l.drop k, this with
  | [a], _ => rfl

set_option maxHeartbeats 2000000 in
set_option maxRecDepth 100000 in
theorem goodAll_any (l : List Sg) (hl : ∀ s ∈ l, s.v.length = 6) (hn : l.length < 4611686018427387904) (v : Value) (w : World) (h : SegRow w w.heap.size v l) :
    Calls Tryd.prog 15 #[v] w fun e w' => e = .returned (.bool (goodS l)) ∧ Bel w w' := by
  have HC := Lib.hid (contains_any l hl hn v w h)
  have H := Lib.hid h
  have HL := Lib.hid hl
  obtain ⟨p, c, rfl, hc, _⟩ := h
  obtain ⟨G, hG⟩ : ∃ G, goodS l = G := ⟨_, rfl⟩
  rw [hG]
  have HG : Hid (G = (headOk l && decide (l.length ≤ 4096) && l.all goodOne && noTwo l)) := hG.symm
  clear hl hG
  go_enter Tryd.func15, Tryd.ntmps15
  cases hl0 : l with
  | nil =>
    have HE : Hid (G = false) := by unfold Hid; rw [HG.out, hl0]; rfl
    subst hl0
    go_wp2
    go_ret
    exact ⟨by rw [HE.out]; rfl, Bel.refl _⟩
  | cons s0 r0 =>
    have hpos : 0 < l.length := by rw [hl0]; simp
    have hs0 : l[0]? = some s0 := by rw [hl0]; rfl
    have hhd : headOk l = decide (s0.kind = 1) := by rw [hl0]; rfl
    rw [← hl0]
    clear hl0
    have h6 := HL.out s0 (List.mem_of_getElem? hs0)
    obtain ⟨sk, sv, sw⟩ := s0
    dsimp only at h6 hhd
    obtain ⟨v0, v1, v2, v3, v4, v5, rfl⟩ := six h6
    obtain ⟨b, o, c', he, _, hbn, hcells⟩ := H.out.at hs0
    simp only [Value.slice.injEq] at he
    obtain ⟨rfl, _, rfl⟩ := he
    rw [Nat.zero_mul, Nat.add_zero] at hcells
    obtain ⟨q0, q1, q2, q3, q4, q5, q6, q7⟩ := hcells
    clear hs0 h6
    have hne : ((l.length : Int) == 0) = false := by rw [beq_eq_false_iff_ne]; omega
    by_cases h96 : l.length ≤ 4096
    · by_cases h1 : sk = 1
      · have h1' : (sk != 1) = false := by simpa using h1
        cases ha : l.all goodOne with
        | false =>
          rw [ha] at HC
          have HE : Hid (G = false) := by unfold Hid; rw [HG.out, ha]; simp
          clear ha h1
          go_wp2_with (first
            | (go_at_call 34; (with_reducible refine (HC.out).mono ?_); rintro e w2 ⟨rfl, hb2⟩; have HB2 := Lib.hid hb2; clear hb2))
          go_ret
          exact ⟨by rw [HE.out]; rfl, HB2.out⟩
        | true =>
          rw [ha] at HC
          have HE : Hid (G = noTwo l) := by unfold Hid; rw [HG.out, ha, hhd, decide_eq_true h1, decide_eq_true h96]; simp
          clear ha h1
          obtain ⟨p1, hpp⟩ : ∃ p1, (if c = 1 then some (⟨b, o, none⟩ : Addr) else some ⟨b, o + 8, none⟩) = p1 := ⟨_, rfl⟩
          go_wp2_with (first
            | (go_at_call 34; (with_reducible refine (HC.out).mono ?_); rintro e w2 ⟨rfl, hb2⟩; have HB2 := Lib.hid hb2; clear hb2))
          have HN0 : Hid (noTwo l = noTwo (l.drop 0)) := by unfold Hid; rw [List.drop_zero]
          clear q0 q1 q2 q3 q4 q5 q6 q7
          go_loopg [26] l.length (fun gf i wx => ∃ k : Nat, i = .int .i64 k ∧ k + 1 ≤ l.length ∧ l.length ≤ k + gf ∧ noTwo l = noTwo (l.drop k) ∧ Bel w wx)
          case atStart => exact ⟨0, rfl, by omega, by omega, HN0.out, HB2.out⟩
          case round =>
            obtain ⟨k, rfl, hkl, hkg, hno, hb⟩ := hrel
            have HNO := Lib.hid hno
            have HB := Lib.hid hb
            clear hno hb
            by_cases hk : k + 1 < l.length
            · obtain ⟨gk', rfl⟩ : ∃ g, gk = g + 1 := ⟨gk - 1, by omega⟩
              obtain ⟨s, hs⟩ : ∃ s, l[k]? = some s := ⟨_, List.getElem?_eq_getElem (by omega)⟩
              obtain ⟨t, ht⟩ : ∃ t, l[k + 1]? = some t := ⟨_, List.getElem?_eq_getElem hk⟩
              have h6 := HL.out s (List.mem_of_getElem? hs)
              have h7 := HL.out t (List.mem_of_getElem? ht)
              have HST := Lib.hid (noTwo_step hs ht)
              obtain ⟨ka, sv, sw'⟩ := s
              obtain ⟨kb, tv, tw⟩ := t
              dsimp only at h6 h7 HST
              obtain ⟨a0, a1, a2, a3, a4, a5, rfl⟩ := six h6
              obtain ⟨b0, b1, b2, b3, b4, b5, rfl⟩ := six h7
              obtain ⟨bb, oo, cc, he, _, _, qa, _⟩ := (H.out.below (Below.mono HB.out (Nat.le_refl _))).at hs
              simp only [Value.slice.injEq] at he
              obtain ⟨he1, _, rfl⟩ := he
              simp only [Option.some.injEq, Addr.mk.injEq] at he1
              obtain ⟨rfl, rfl, _⟩ := he1
              obtain ⟨bb, oo, cc, he, _, _, qb, _⟩ := (H.out.below (Below.mono HB.out (Nat.le_refl _))).at ht
              simp only [Value.slice.injEq] at he
              obtain ⟨he1, _, rfl⟩ := he
              simp only [Option.some.injEq, Addr.mk.injEq] at he1
              obtain ⟨rfl, rfl, _⟩ := he1
              clear hs ht h6 h7
              have hki : (k : Int) < (l.length : Int) - 1 := by omega
              by_cases k6 : ka = 6
              · have k6' : (ka == 6) = true := by simpa using k6
                by_cases m6 : kb = 6
                · have m6' : (kb == 6) = true := by simpa using m6
                  have HE2 : Hid (G = false) := by unfold Hid; rw [HE.out, HNO.out, HST.out, decide_eq_true k6, decide_eq_true m6]; rfl
                  clear k6 m6
                  go_wp2
                  go_ret
                  exact ⟨by rw [HE2.out]; rfl, HB.out⟩
                · have m6' : (kb == 6) = false := by simpa using m6
                  have HNN : Hid (noTwo l = noTwo (l.drop (k + 1))) := by unfold Hid; rw [HNO.out, HST.out, decide_eq_false m6]; simp
                  clear k6 m6
                  go_wp2
                  go_roundg gk'
                  case measure => omega
                  case rel => exact ⟨k + 1, rfl, by omega, by omega, HNN.out, HB.out⟩
              · have k6' : (ka == 6) = false := by simpa using k6
                have HNN : Hid (noTwo l = noTwo (l.drop (k + 1))) := by unfold Hid; rw [HNO.out, HST.out, decide_eq_false k6]; simp
                clear k6
                go_wp2
                go_roundg gk'
                case measure => omega
                case rel => exact ⟨k + 1, rfl, by omega, by omega, HNN.out, HB.out⟩
            · have HE2 : Hid (G = true) := by unfold Hid; rw [HE.out, HNO.out, noTwo_end (by omega)]
              have hki : ¬ (k : Int) < (l.length : Int) - 1 := by omega
              go_wp2
              go_ret
              exact ⟨by rw [HE2.out]; rfl, HB.out⟩
      · have h1' : (sk != 1) = true := by simpa using h1
        have HE : Hid (G = false) := by unfold Hid; rw [HG.out, hhd, decide_eq_false h1]; simp
        clear h1
        go_wp2
        go_ret
        exact ⟨by rw [HE.out]; rfl, Bel.refl _⟩
    · have HE : Hid (G = false) := by unfold Hid; rw [HG.out, decide_eq_false h96]; simp
      have h96' : decide ((4096 : Int) < (l.length : Int)) = true := decide_eq_true (by omega)
      go_wp2
      go_ret
      exact ⟨by rw [HE.out]; rfl, Bel.refl _⟩
end Go.Proofs.YtefajplbgmikdaaDoor
