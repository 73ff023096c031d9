/-
  The walk of the reference's Good.
-/
import Derived.Test.YtefajplbgmikdaaDoorRefA
namespace Go.Proofs.YtefajplbgmikdaaDoor
open Go.RowKit

def prevK (l : List Sg) : Nat → Int
  | 0 => 0
  | k + 1 => match l[k]? with | some s => s.kind | none => 0
theorem prevK_succ {l : List Sg} {k : Nat} {s : Sg} (h : l[k]? = some s) : prevK l (k + 1) = s.kind := by simp [prevK, h]
theorem restG_at {l : List Sg} {k : Nat} {s : Sg} (h : l[k]? = some s) (pk : Int) : restG (l.drop k) pk = (decide (1 ≤ s.kind) && decide (s.kind ≤ 6) && !(decide (s.kind = 6) && decide (pk = 6)) && goodN (countK s.kind) s.v 0 && goodW s && restG (l.drop (k + 1)) s.kind) := by
  obtain ⟨hlt, he⟩ := List.getElem?_eq_some_iff.1 h
  rw [List.drop_eq_getElem_cons hlt, he, restG]

set_option maxHeartbeats 4000000 in
set_option maxRecDepth 100000 in
theorem refGood_any (l : List Sg) (hl : ∀ s ∈ l, s.v.length = 6) (hn : l.length < 4611686018427387904) (v : Value) (w : World) (h : SegRow w w.heap.size v l) :
    Calls Tryd.prog 16 #[v] w fun e w' => e = .returned (.bool (goodS l)) ∧ w' = w := by
  have H := Lib.hid h
  have HL := Lib.hid hl
  obtain ⟨p, c, rfl, hc, _⟩ := h
  obtain ⟨G, hG⟩ : ∃ G, goodS l = G := ⟨_, rfl⟩
  rw [hG]
  have HG : Hid (G = (headOk l && decide (l.length ≤ 4096) && restG l 0)) := by unfold Hid; rw [← hG]; exact goodS_rest l
  clear hl hG
  go_enter Tryd.func16, Tryd.ntmps16
  cases hl0 : l with
  | nil =>
    have HE : Hid (G = false) := by unfold Hid; rw [HG.out, hl0]; rfl
    subst hl0
    go_wp2
    go_ret
    exact ⟨by rw [HE.out]; rfl, rfl⟩
  | cons s0 r0 =>
    have hpos : 0 < l.length := by rw [hl0]; simp
    have hs0 : l[0]? = some s0 := by rw [hl0]; rfl
    have hhd : headOk l = decide (s0.kind = 1) := by rw [hl0]; rfl
    rw [← hl0]
    clear hl0
    have h6 := HL.out s0 (List.mem_of_getElem? hs0)
    have HS0 := Lib.hid hs0
    obtain ⟨sk, sv, sw⟩ := s0
    dsimp only at h6 hhd
    obtain ⟨v0, v1, v2, v3, v4, v5, rfl⟩ := six h6
    obtain ⟨b, o, c', he, _, hbn, hcells⟩ := H.out.at hs0
    simp only [Value.slice.injEq] at he
    obtain ⟨rfl, _, rfl⟩ := he
    rw [Nat.zero_mul, Nat.add_zero] at hcells
    obtain ⟨q0, q1, q2, q3, q4, q5, q6, q7⟩ := hcells
    clear hs0 h6
    have hne : ((l.length : Int) == 0) = false := by rw [beq_eq_false_iff_ne]; omega
    by_cases h96 : l.length ≤ 4096
    · by_cases h1 : sk = 1
      · have h1' : (sk != 1) = false := by simpa using h1
        have HR0 : Hid (G = restG (l.drop 0) (prevK l 0)) := by unfold Hid; rw [HG.out, hhd, decide_eq_true h1, decide_eq_true h96, List.drop_zero]; rfl
        have HK1 := Lib.hid h1
        clear h1
        go_wp2
        clear q0 q1 q2 q3 q4 q5 q6 q7
        go_loopg [3] l.length (fun gf i wx => ∃ k : Nat, i = .int .i64 k ∧ k ≤ l.length ∧ l.length ≤ k + gf ∧ G = restG (l.drop k) (prevK l k) ∧ w = wx)
        case atStart => exact ⟨0, rfl, by omega, by omega, HR0.out, rfl⟩
        case round =>
          obtain ⟨k, rfl, hkl, hkg, hrg, rfl⟩ := hrel
          have HRG := Lib.hid hrg
          clear hrg
          by_cases hk : k < l.length
          · obtain ⟨gk', rfl⟩ : ∃ g, gk = g + 1 := ⟨gk - 1, by omega⟩
            obtain ⟨s, hs⟩ : ∃ s, l[k]? = some s := ⟨_, List.getElem?_eq_getElem hk⟩
            have h6 := HL.out s (List.mem_of_getElem? hs)
            have HST := Lib.hid (restG_at hs (prevK l k))
            have hnx := prevK_succ hs
            obtain ⟨ka, sv, wa⟩ := s
            dsimp only at h6 HST hnx
            obtain ⟨a0, a1, a2, a3, a4, a5, rfl⟩ := six h6
            obtain ⟨bb, oo, cc, he, _, _, q0, q1, q2, q3, q4, q5, q6, q7⟩ := H.out.at hs
            simp only [Value.slice.injEq] at he
            obtain ⟨he1, _, rfl⟩ := he
            simp only [Option.some.injEq, Addr.mk.injEq] at he1
            obtain ⟨rfl, rfl, _⟩ := he1
            have HS := Lib.hid hs
            have HNX := Lib.hid hnx
            clear hs h6 hnx
            have hus := used_any ka
            have HUS := Lib.hid hus
            clear hus
            by_cases hin : 1 ≤ ka ∧ ka ≤ 6
            · have hu : usedS ka = (countK ka : Nat) := by unfold usedS; rw [if_pos hin]
              rw [hu] at HUS
              clear hu
              obtain ⟨n, hn'⟩ : ∃ n, countK ka = n := ⟨_, rfl⟩
              rw [hn'] at HUS
              have HN := Lib.hid hn'
              clear hn'
              have hneg : decide ((n : Int) < 0) = false := decide_eq_false (by omega)
              -- the part behind a Close
              by_cases hbad : ka = 6 ∧ prevK l k = 6
              · have HE : Hid (G = false) := by unfold Hid; rw [HRG.out, HST.out, decide_eq_true hbad.1, decide_eq_true hbad.2]; simp
                have k6' : (ka == 6) = true := by simpa using hbad.1
                have hk0 : k ≠ 0 := by
                  rintro rfl
                  have := hbad.2
                  simp [prevK] at this
                obtain ⟨m, rfl⟩ : ∃ m, k = m + 1 := ⟨k - 1, by omega⟩
                obtain ⟨t, ht⟩ : ∃ t, l[m]? = some t := ⟨_, List.getElem?_eq_getElem (by omega)⟩
                have h7 := HL.out t (List.mem_of_getElem? ht)
                have hpt := hbad.2
                rw [prevK_succ ht] at hpt
                obtain ⟨kt, tv, tw⟩ := t
                dsimp only at h7 hpt
                subst hpt
                obtain ⟨b0, b1, b2, b3, b4, b5, rfl⟩ := six h7
                obtain ⟨bb2, oo2, cc, he, _, _, r0, _⟩ := H.out.at ht
                simp only [Value.slice.injEq] at he
                obtain ⟨he1, _, rfl⟩ := he
                simp only [Option.some.injEq, Addr.mk.injEq] at he1
                obtain ⟨rfl, rfl, _⟩ := he1
                clear hbad ht h7
                have hsub : ((m + 1 : Nat) : Int) - 1 = (m : Int) := by omega
                go_wp2_with (first
                  | (go_at_call 20; (with_reducible refine (HUS.out _).mono ?_); rintro e w2 ⟨rfl, hw2⟩; obtain rfl := hw2.symm))
                go_ret
                exact ⟨by rw [HE.out]; rfl, rfl⟩
              · have HST2 : Hid (G = (goodN n [a0, a1, a2, a3, a4, a5] 0 && goodW ⟨ka, [a0, a1, a2, a3, a4, a5], wa⟩ && restG (l.drop (k + 1)) ka)) := by
                  unfold Hid
                  rw [HRG.out, HST.out, HN.out, decide_eq_true hin.1, decide_eq_true hin.2]
                  by_cases k6 : ka = 6
                  · rw [decide_eq_false (p := prevK l k = 6) (fun h => hbad ⟨k6, h⟩)]; simp
                  · rw [decide_eq_false k6]; simp
                go_upto_region 7 with (first
                  | (go_at_call 20; (with_reducible refine (HUS.out _).mono ?_); rintro e w2 ⟨rfl, hw2⟩; obtain rfl := hw2.symm))
                go_cut [51] from 33 to 51 (fun s51 wx => s51 = .bool false ∧ w = wx)
                case first =>
                  by_cases k6 : ka = 6
                  · have k6' : (ka == 6) = true := by simpa using k6
                    have hk0 : k ≠ 0 := by
                      rintro rfl
                      have e1 := HS.out
                      rw [HS0.out] at e1
                      simp only [Option.some.injEq, Sg.mk.injEq] at e1
                      have := HK1.out
                      omega
                    obtain ⟨m, rfl⟩ : ∃ m, k = m + 1 := ⟨k - 1, by omega⟩
                    obtain ⟨t, ht⟩ : ∃ t, l[m]? = some t := ⟨_, List.getElem?_eq_getElem (by omega)⟩
                    have h7 := HL.out t (List.mem_of_getElem? ht)
                    have hpt : ¬ t.kind = 6 := fun h => hbad ⟨k6, by rw [prevK_succ ht]; exact h⟩
                    obtain ⟨kt, tv, tw⟩ := t
                    dsimp only at h7 hpt
                    obtain ⟨b0, b1, b2, b3, b4, b5, rfl⟩ := six h7
                    obtain ⟨bb2, oo2, cc, he, _, _, r0, _⟩ := H.out.at ht
                    simp only [Value.slice.injEq] at he
                    obtain ⟨he1, _, rfl⟩ := he
                    simp only [Option.some.injEq, Addr.mk.injEq] at he1
                    obtain ⟨rfl, rfl, _⟩ := he1
                    have hpt' : (kt == 6) = false := by simpa using hpt
                    have hsub : ((m + 1 : Nat) : Int) - 1 = (m : Int) := by omega
                    clear hbad ht h7 hpt k6
                    go_wp2
                    go_meet
                    exact ⟨rfl, rfl⟩
                  · have k6' : (ka == 6) = false := by simpa using k6
                    clear k6
                    go_wp2
                    go_meet
                    exact ⟨rfl, rfl⟩
                case rest =>
                obtain ⟨rfl, rfl⟩ := hcut
                have HIN := Lib.hid hin
                clear hbad hneg HRG HST
                go_wp2
                go_loopg [5] 6 (fun gf j wx => ∃ m : Nat, j = .int .i64 m ∧ m ≤ 6 ∧ 6 ≤ m + gf ∧ goodN n [a0, a1, a2, a3, a4, a5] 0 = goodN n ([a0, a1, a2, a3, a4, a5].drop m) m ∧ w = wx)
                case atStart => exact ⟨0, rfl, by omega, by omega, rfl, rfl⟩
                case round =>
                  obtain ⟨m, rfl, hm6, hmg, hgn, rfl⟩ := hrel
                  have HGN := Lib.hid hgn
                  clear hgn
                  by_cases hm : m < 6
                  · obtain ⟨gm, rfl⟩ : ∃ g, gk = g + 1 := ⟨gk - 1, by omega⟩
                    obtain ⟨x, hx⟩ : ∃ x, [a0, a1, a2, a3, a4, a5][m]? = some x := ⟨_, List.getElem?_eq_getElem (by simpa using hm)⟩
                    have HCN := Lib.hid (goodN_cons (c := n) hx)
                    have hxc : w.cell? ⟨b, o + k * 8 + 1 + m, none⟩ = some (.int .i64 x) := by
                      have hj : m = 0 ∨ m = 1 ∨ m = 2 ∨ m = 3 ∨ m = 4 ∨ m = 5 := by omega
                      rcases hj with rfl | rfl | rfl | rfl | rfl | rfl <;> (simp at hx; subst hx; assumption)
                    clear hx
                    cases hin2 : inR x with
                    | false =>
                      have HE : Hid (G = false) := by unfold Hid; rw [HST2.out, HGN.out, HCN.out, hin2]; simp
                      have HF := fun V => Lib.hid (far_any x false hin2 V)
                      clear hin2
                      go_wp2_with (first
                        | (go_at_call 37; (with_reducible refine ((HF _).out).mono ?_); rintro e w2 ⟨rfl, hw2⟩; obtain rfl := hw2.symm))
                      go_ret
                      exact ⟨by rw [HE.out]; rfl, rfl⟩
                    | true =>
                      have HF := fun V => Lib.hid (far_any x true hin2 V)
                      by_cases hmn : m < n
                      · have HNXT : Hid (goodN n [a0, a1, a2, a3, a4, a5] 0 = goodN n ([a0, a1, a2, a3, a4, a5].drop (m + 1)) (m + 1)) := by unfold Hid; rw [HGN.out, HCN.out, hin2, decide_eq_true hmn]; simp
                        clear hin2
                        go_wp2_with (first
                          | (go_at_call 37; (with_reducible refine ((HF _).out).mono ?_); rintro e w2 ⟨rfl, hw2⟩; obtain rfl := hw2.symm))
                        go_roundg gm
                        case measure => omega
                        case rel => exact ⟨m + 1, rfl, by omega, by omega, HNXT.out, rfl⟩
                      · have hmn2 : n ≤ m := by omega
                        by_cases z1 : x = 0
                        · have z1' : (x != 0) = false := by simpa using z1
                          have HNXT : Hid (goodN n [a0, a1, a2, a3, a4, a5] 0 = goodN n ([a0, a1, a2, a3, a4, a5].drop (m + 1)) (m + 1)) := by unfold Hid; rw [HGN.out, HCN.out, hin2, decide_eq_true z1]; simp
                          clear hin2 z1 hmn
                          go_wp2_with (first
                            | (go_at_call 37; (with_reducible refine ((HF _).out).mono ?_); rintro e w2 ⟨rfl, hw2⟩; obtain rfl := hw2.symm))
                          go_roundg gm
                          case measure => omega
                          case rel => exact ⟨m + 1, rfl, by omega, by omega, HNXT.out, rfl⟩
                        · have z1' : (x != 0) = true := by simpa using z1
                          have HE : Hid (G = false) := by unfold Hid; rw [HST2.out, HGN.out, HCN.out, hin2, decide_eq_false z1, decide_eq_false hmn]; simp
                          clear hin2 z1 hmn
                          go_wp2_with (first
                            | (go_at_call 37; (with_reducible refine ((HF _).out).mono ?_); rintro e w2 ⟨rfl, hw2⟩; obtain rfl := hw2.symm))
                          go_ret
                          exact ⟨by rw [HE.out]; rfl, rfl⟩
                  · obtain rfl : m = 6 := by omega
                    have HG3 : Hid (G = (goodW ⟨ka, [a0, a1, a2, a3, a4, a5], wa⟩ && restG (l.drop (k + 1)) ka)) := by unfold Hid; rw [HST2.out, HGN.out]; simp [goodN]
                    by_cases k5 : ka = 5
                    · have k5' : (ka == 5) = true := by simpa using k5
                      have k5'' : (ka != 5) = false := by simpa using k5
                      have HG4 : Hid (G = (decide (1 ≤ wa) && decide (wa ≤ 4096) && restG (l.drop (k + 1)) ka)) := by unfold Hid; rw [HG3.out]; unfold goodW; rw [if_pos k5]
                      clear k5
                      by_cases u1 : wa < 1
                      · have u1' : decide (wa < 1) = true := decide_eq_true u1
                        have HE : Hid (G = false) := by unfold Hid; rw [HG4.out, decide_eq_false (p := 1 ≤ wa) (by omega)]; rfl
                        go_wp2
                        go_ret
                        exact ⟨by rw [HE.out]; rfl, rfl⟩
                      · have u1' : decide (wa < 1) = false := decide_eq_false u1
                        by_cases u2 : 4096 < wa
                        · have u2' : decide (4096 < wa) = true := decide_eq_true u2
                          have HE : Hid (G = false) := by unfold Hid; rw [HG4.out, decide_eq_false (p := wa ≤ 4096) (by omega)]; simp
                          go_wp2
                          go_ret
                          exact ⟨by rw [HE.out]; rfl, rfl⟩
                        · have u2' : decide (4096 < wa) = false := decide_eq_false u2
                          have HE : Hid (G = restG (l.drop (k + 1)) (prevK l (k + 1))) := by unfold Hid; rw [HG4.out, decide_eq_true (p := 1 ≤ wa) (by omega), decide_eq_true (p := wa ≤ 4096) (by omega), HNX.out]; rfl
                          go_wp2
                          go_roundg gk'
                          case measure => omega
                          case rel => exact ⟨k + 1, rfl, by omega, by omega, HE.out, rfl⟩
                    · have k5' : (ka == 5) = false := by simpa using k5
                      have k5'' : (ka != 5) = true := by simpa using k5
                      have HG4 : Hid (G = (decide (wa = 0) && restG (l.drop (k + 1)) ka)) := by unfold Hid; rw [HG3.out]; unfold goodW; rw [if_neg k5]
                      clear k5
                      by_cases u1 : wa = 0
                      · have u1' : (wa != 0) = false := by simpa using u1
                        have HE : Hid (G = restG (l.drop (k + 1)) (prevK l (k + 1))) := by unfold Hid; rw [HG4.out, decide_eq_true u1, HNX.out]; rfl
                        clear u1
                        go_wp2
                        go_roundg gk'
                        case measure => omega
                        case rel => exact ⟨k + 1, rfl, by omega, by omega, HE.out, rfl⟩
                      · have u1' : (wa != 0) = true := by simpa using u1
                        have HE : Hid (G = false) := by unfold Hid; rw [HG4.out, decide_eq_false u1]; rfl
                        clear u1
                        go_wp2
                        go_ret
                        exact ⟨by rw [HE.out]; rfl, rfl⟩
            · have hu : usedS ka = -1 := by unfold usedS; rw [if_neg hin]
              rw [hu] at HUS
              have HE : Hid (G = false) := by
                unfold Hid
                rw [HRG.out, HST.out]
                by_cases a1 : 1 ≤ ka
                · rw [decide_eq_false (p := ka ≤ 6) (fun h => hin ⟨a1, h⟩)]; simp
                · rw [decide_eq_false a1]; simp
              clear hu hin
              go_wp2_with (first
                | (go_at_call 20; (with_reducible refine (HUS.out _).mono ?_); rintro e w2 ⟨rfl, hw2⟩; obtain rfl := hw2.symm))
              go_ret
              exact ⟨by rw [HE.out]; rfl, rfl⟩
          · obtain rfl : k = l.length := by omega
            have HE2 : Hid (G = true) := by unfold Hid; rw [HRG.out, List.drop_length]; rfl
            go_wp2
            go_ret
            exact ⟨by rw [HE2.out]; rfl, rfl⟩
      · have h1' : (sk != 1) = true := by simpa using h1
        have HE : Hid (G = false) := by unfold Hid; rw [HG.out, hhd, decide_eq_false h1]; simp
        clear h1
        go_wp2
        go_ret
        exact ⟨by rw [HE.out]; rfl, rfl⟩
    · have HE : Hid (G = false) := by unfold Hid; rw [HG.out, decide_eq_false h96]; simp
      have h96' : decide ((4096 : Int) < (l.length : Int)) = true := decide_eq_true (by omega)
      go_wp2
      go_ret
      exact ⟨by rw [HE.out]; rfl, rfl⟩
end Go.Proofs.YtefajplbgmikdaaDoor
