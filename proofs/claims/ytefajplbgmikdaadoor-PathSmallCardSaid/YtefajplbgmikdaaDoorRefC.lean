/-
  The walk of the reference's Text: the same text as path.Text's.
-/
import Derived.Test.YtefajplbgmikdaaDoorRefB
import Derived.BigQuiet
namespace Go.Proofs.YtefajplbgmikdaaDoor
open Go.RowKit

theorem refdec_op (v : Int) (h : -4611686018427387904 ≤ v ∧ v ≤ 4611686018427387904) (w : World) :
    Calls Tryd.prog 33 #[.int .i64 v] w fun e w' => Bel w w' ∧ ∃ z : ByteArray, e = .returned (.string z) ∧ z.data.toList = Lib.itoa v ∧ z.size ≤ 21 :=
  (refdec_any v h w).mono fun e w' ⟨he, hb⟩ => ⟨hb, _, he, rfl, Lib.itoa_length_le v (by omega) (by omega)⟩
def oneB (s : Sg) : List UInt8 := letterB s.kind :: (numsOf s).flatMap fun n => 32 :: Lib.itoa n
theorem tail_nums (ns : List Int) : Lib.joinTail [32] (ns.map Lib.itoa) = ns.flatMap fun n => 32 :: Lib.itoa n := by
  unfold Lib.joinTail
  induction ns with
  | nil => rfl
  | cons n r ih => simp at ih ⊢; rw [ih]
theorem tail_app (a b : List (List UInt8)) : Lib.joinTail [32] (a ++ b) = Lib.joinTail [32] a ++ Lib.joinTail [32] b := by simp [Lib.joinTail]
theorem text_step {l : List Sg} {k : Nat} {s : Sg} (h : l[k]? = some s) : textS (l.take (k + 1)) = (textS (l.take k) ++ if 0 < k then [32] else []) ++ oneB s := by
  unfold textS
  have e : wordsS (l.take (k + 1)) = wordsS (l.take k) ++ ([letterB s.kind] :: (numsOf s).map Lib.itoa) := by
    unfold wordsS
    rw [List.take_add_one, h, List.flatMap_append]
    simp [wordsOf]
  rw [e]
  have ho : oneB s = letterB s.kind :: Lib.joinTail [32] ((numsOf s).map Lib.itoa) := by rw [tail_nums]; rfl
  rw [ho]
  cases k with
  | zero => simp [wordsS, Lib.join_cons, Lib.join_nil]
  | succ k =>
    obtain ⟨t, ht⟩ : ∃ t, l[0]? = some t := by
      cases l with
      | nil => simp at h
      | cons t r => exact ⟨t, rfl⟩
    have hne : ∃ x r, wordsS (l.take (k + 1)) = x :: r := by
      cases l with
      | nil => simp at ht
      | cons t r => exact ⟨_, _, by simp only [List.take_succ_cons, wordsS, List.flatMap_cons, wordsOf, List.cons_append]; rfl⟩
    obtain ⟨x, r, hx⟩ := hne
    rw [hx, List.cons_append, Lib.join_cons, Lib.join_cons, tail_app]
    simp [Lib.joinTail]
theorem letter_ext2 {k : Int} (h1 : 1 ≤ k) (h2 : k ≤ 6) : (⟨#[63, 77, 76, 81, 67, 75, 90]⟩ : ByteArray).extract k.toNat (k + 1).toNat = ⟨#[letterB k]⟩ := by
  rcases kind_cases h1 h2 with rfl | rfl | rfl | rfl | rfl | rfl <;> rfl
theorem bz1 (c : UInt8) : (⟨#[c]⟩ : ByteArray).size = 1 := rfl
theorem str_of {q : ByteArray} {x : List UInt8} (h : q.data.toList = x) : q = ⟨x.toArray⟩ := by subst h; rfl

set_option maxHeartbeats 4000000 in
set_option maxRecDepth 100000 in
theorem refText_any (l : List Sg) (hl : ∀ s ∈ l, s.v.length = 6) (hn : l.length < 4611686018427387904) (v : Value) (w : World) (h : SegRow w w.heap.size v l) :
    Calls Tryd.prog 14 #[v] w fun e w' => Bel w w' ∧ e = .returned (.tuple #[.string ⟨(if goodS l = true then textS l else []).toArray⟩, .int .i64 (if goodS l = true then 0 else 11)]) := by
  have HGO := Lib.hid (refGood_any l hl hn v w h)
  have H := Lib.hid h
  have HL := Lib.hid hl
  obtain ⟨p, c, rfl, hc, _⟩ := h
  clear hl
  go_enter Tryd.func14, Tryd.ntmps14
  cases hg : goodS l with
  | false =>
    rw [hg] at HGO
    clear hg
    go_wp2_with (first
      | (go_at_call 16; (with_reducible refine (HGO.out).mono ?_); rintro e w2 ⟨rfl, hw2⟩; obtain rfl := hw2.symm))
    go_ret2
    exact ⟨Bel.refl _, rfl⟩
  | true =>
    rw [hg] at HGO
    obtain ⟨_, h96, hall, _⟩ := good_parts hg
    have HALL := Lib.hid hall
    clear hg hall
    go_upto_region 5 with (first
      | (go_at_call 16; (with_reducible refine (HGO.out).mono ?_); rintro e w2 ⟨rfl, hw2⟩; obtain rfl := hw2.symm))
    go_wp2_with fail
    go_loopg [4, 5] l.length (fun gf s4 i wx => ∃ (k : Nat) (q : ByteArray), s4 = .string q ∧ i = .int .i64 k ∧ k ≤ l.length ∧ l.length ≤ k + gf ∧ q.data.toList = textS (l.take k) ∧ q.size ≤ 200 * k ∧ Bel w wx)
    case atStart => exact ⟨0, ⟨#[]⟩, rfl, rfl, by omega, by omega, by simp [textS, wordsS, Lib.join_nil], Nat.le_refl _, Bel.refl _⟩
    case round =>
      obtain ⟨k, q, rfl, rfl, hkl, hkg, hq, hqs, hb⟩ := hrel
      have HQ := Lib.hid hq
      have HB := Lib.hid hb
      clear hq hb
      by_cases hk : k < l.length
      · obtain ⟨gk', rfl⟩ : ∃ g, gk = g + 1 := ⟨gk - 1, by omega⟩
        obtain ⟨s, hs⟩ : ∃ s, l[k]? = some s := ⟨_, List.getElem?_eq_getElem hk⟩
        have HST := Lib.hid (text_step hs)
        have h6 := HL.out s (List.mem_of_getElem? hs)
        have hgo := HALL.out s (List.mem_of_getElem? hs)
        obtain ⟨sk, sv, sw⟩ := s
        dsimp only at h6
        obtain ⟨v0, v1, v2, v3, v4, v5, rfl⟩ := six h6
        obtain ⟨hgk, hgn, hww⟩ := good_all hgo
        dsimp only at hgk hgn
        obtain ⟨hk1, hk2⟩ := hgk
        have HCO : Hid (∀ x ∈ [v0, v1, v2, v3, v4, v5], Co x) := fun x hx => inR_iff.1 (goodN_in hgn x hx)
        have HWW : Hid (sk = 5 → 1 ≤ sw ∧ sw ≤ 4096) := by
          intro e
          unfold goodW at hww
          dsimp only at hww
          rw [if_pos e] at hww
          simpa using hww
        have HS := Lib.hid hs
        clear hgo h6 hgn hww hs
        have hex := letter_ext2 hk1 hk2
        have HEX := Lib.hid hex
        have HH := Lib.hid (H.out.bel HB.out)
        obtain ⟨bb, oo, cc, he, _, _, q0, q1, q2, q3, q4, q5, q6, q7⟩ := HH.out.at HS.out
        simp only [Value.slice.injEq] at he
        obtain ⟨rfl, _, rfl⟩ := he
        clear hex
        go_upto_if 17 with fail
        go_cut [4] from 10 to 69 (fun s4 wx => ∃ q1 : ByteArray, s4 = .string q1 ∧ q1.data.toList = textS (l.take k) ++ (if 0 < k then [32] else []) ∧ q1.size ≤ 200 * k + 1 ∧ wr = wx)
        case first =>
          by_cases k0 : 0 < k
          · have HP : Hid (textS (l.take k) ++ (if 0 < k then [32] else []) = textS (l.take k) ++ [32]) := by unfold Hid; rw [if_pos k0]
            have h96' : k ≤ 4096 := by omega
            go_wp2
            go_meet
            exact ⟨_, rfl, by rw [HP.out]; simp [HQ.out], by simp [bz1]; omega, rfl⟩
          · have HP : Hid (textS (l.take k) ++ (if 0 < k then [32] else []) = textS (l.take k)) := by unfold Hid; rw [if_neg k0]; simp
            go_wp2
            go_meet
            exact ⟨_, rfl, by rw [HP.out]; exact HQ.out, by omega, rfl⟩
        case rest =>
        obtain ⟨q9, rfl, hq9, hs9, hw9⟩ := hcut
        obtain rfl := hw9
        have HQ9 := Lib.hid hq9
        have h96' : k ≤ 4096 := by omega
        have hex := HEX.out
        clear hq9 hqs
        obtain ⟨T0, hT0⟩ : ∃ T0, textS (l.take k) ++ (if 0 < k then [32] else []) = T0 := ⟨_, rfl⟩
        rw [hT0] at HQ9 HST
        clear hT0
        go_upto_region 9 with fail
        go_quiet (fail)
        go_upto_if 39 with fail
        have HBD : Hid (Bel wr (wr.drewN nq)) := (Bel.refl _).drewN _
        generalize wr.drewN nq = wd at HBD ⊢
        go_cut [4] from 10 to 69 (fun s4 wx => ∃ qa : ByteArray, s4 = .string qa ∧ qa.data.toList = T0 ++ (letterB sk :: (if sk = 5 then 32 :: Lib.itoa sw else [])) ∧ qa.size ≤ 200 * k + 30 ∧ Bel wr wx)
        case first =>
          by_cases h5 : sk = 5
          · have h5' : (sk == 5) = true := by simpa using h5
            have hww := HWW.out h5
            have HP : Hid ((letterB sk :: (if sk = 5 then 32 :: Lib.itoa sw else [])) = letterB sk :: (32 :: Lib.itoa sw)) := by unfold Hid; rw [if_pos h5]
            have HDE := Lib.hid (fun V => refdec_op sw (by omega) V)
            have r7 := HBD.out.cell q7
            clear h5
            go_wp2_with (first
              | (go_at_call 33; (with_reducible refine (HDE.out _).mono ?_); rintro e w3 ⟨hb3, z, rfl, hz, hzs⟩; have HZ := Lib.hid hz; have HB3 := Lib.hid (HBD.out.trans hb3); clear hb3 hz))
            go_meet
            exact ⟨_, rfl, by rw [HP.out]; simp [HQ9.out, HZ.out], by simp [bz1]; omega, HB3.out⟩
          · have h5' : (sk == 5) = false := by simpa using h5
            have HP : Hid ((letterB sk :: (if sk = 5 then 32 :: Lib.itoa sw else [])) = [letterB sk]) := by unfold Hid; rw [if_neg h5]
            clear h5
            go_wp2
            go_meet
            exact ⟨_, rfl, by rw [HP.out]; simp [HQ9.out], by simp [bz1]; omega, HBD.out⟩
        case rest =>
        obtain ⟨qa, rfl, hqa, hsa, hba⟩ := hcut
        have HBA := Lib.hid (HB.out.trans hba)
        clear hba HBD q0 q1 q2 q3 q4 q5 q6 q7 HH
        obtain ⟨T1, hT1⟩ : ∃ T1, T0 ++ (letterB sk :: (if sk = 5 then 32 :: Lib.itoa sw else [])) = T1 := ⟨_, rfl⟩
        rw [hT1] at hqa
        have HQA := Lib.hid hqa
        obtain ⟨n, hn'⟩ : ∃ n, countK sk = n := ⟨_, rfl⟩
        have hcn : n ≤ 6 := by rw [← hn']; exact (ruleK_facts hk1 hk2).2.2.2.2.2.2.2.2.2.2
        have HFIN : Hid (textS (l.take (k + 1)) = T1 ++ (([v0, v1, v2, v3, v4, v5].take n).flatMap fun x => 32 :: Lib.itoa x)) := by
          unfold Hid
          rw [HST.out, ← hT1, ← hn']
          unfold oneB numsOf
          dsimp only
          split <;> simp
        have HUS : Hid (∀ V, Calls Tryd.prog 20 #[.int .i64 sk] V fun e w' => e = .returned (.int .i64 n) ∧ w' = V) := fun V => by
          have := used_any sk V
          unfold usedS at this
          rw [if_pos ⟨hk1, hk2⟩, hn'] at this
          exact this
        clear hT1 hqa hn' HST HQ9 HWW HEX hex
        go_wp2
        go_loopg [4, 6] n (fun gf s4 i wx => ∃ (m : Nat) (qb : ByteArray), s4 = .string qb ∧ i = .int .i64 m ∧ m ≤ n ∧ n ≤ m + gf ∧ qb.data.toList = T1 ++ (([v0, v1, v2, v3, v4, v5].take m).flatMap fun x => 32 :: Lib.itoa x) ∧ qb.size ≤ 200 * k + 30 + 25 * m ∧ Bel w wx)
        case atStart => exact ⟨0, _, rfl, rfl, by omega, by omega, by simpa using HQA.out, by omega, HBA.out⟩
        case round =>
          obtain ⟨m, qb, rfl, rfl, hm6, hmg, hqb, hsb, hbb⟩ := hrel
          have HQB := Lib.hid hqb
          have HBB := Lib.hid hbb
          clear hqb hbb
          obtain ⟨b2, o2, c2, he, _, _, q0, q1, q2, q3, q4, q5, q6, q7⟩ := (H.out.bel HBB.out).at HS.out
          simp only [Value.slice.injEq, Option.some.injEq, Addr.mk.injEq] at he
          obtain ⟨⟨rfl, rfl, _⟩, _, rfl⟩ := he
          by_cases hm : m < n
          · obtain ⟨gm, rfl⟩ : ∃ g, gk = g + 1 := ⟨gk - 1, by omega⟩
            obtain ⟨x, hx⟩ : ∃ x, [v0, v1, v2, v3, v4, v5][m]? = some x := ⟨_, List.getElem?_eq_getElem (by simp; omega)⟩
            have hcx := HCO.out x (List.mem_of_getElem? hx)
            unfold Co at hcx
            have HTK : Hid (T1 ++ (([v0, v1, v2, v3, v4, v5].take (m + 1)).flatMap fun x => 32 :: Lib.itoa x) = T1 ++ (([v0, v1, v2, v3, v4, v5].take m).flatMap fun x => 32 :: Lib.itoa x) ++ 32 :: Lib.itoa x) := by
              unfold Hid
              rw [List.take_add_one, hx]
              simp
            have hxc : wr.cell? ⟨bb, oo + k * 8 + 1 + m, none⟩ = some (.int .i64 x) := by
              have hj : m = 0 ∨ m = 1 ∨ m = 2 ∨ m = 3 ∨ m = 4 ∨ m = 5 := by omega
              rcases hj with rfl | rfl | rfl | rfl | rfl | rfl <;> (simp at hx; subst hx; assumption)
            have HDE := Lib.hid (fun V => refdec_op x (by omega) V)
            clear hx
            go_wp2_with (first
              | (go_at_call 20; (with_reducible refine (HUS.out _).mono ?_); rintro e w2 ⟨rfl, hw2⟩; obtain rfl := hw2.symm)
              | (go_at_call 33; (with_reducible refine (HDE.out _).mono ?_); rintro e w3 ⟨hb3, z, rfl, hz, hzs⟩; have HZ := Lib.hid hz; have HB3 := Lib.hid (HBB.out.trans hb3); clear hb3 hz))
            go_roundg gm
            case measure => omega
            case rel => exact ⟨m + 1, _, rfl, rfl, by omega, by omega, by rw [HTK.out]; simp [HQB.out, HZ.out], by simp [bz1]; omega, HB3.out⟩
          · obtain rfl : m = n := by omega
            go_wp2_with (first
              | (go_at_call 20; (with_reducible refine (HUS.out _).mono ?_); rintro e w2 ⟨rfl, hw2⟩; obtain rfl := hw2.symm))
            go_roundg gk'
            case measure => omega
            case rel => exact ⟨k + 1, _, rfl, rfl, by omega, by omega, by rw [HFIN.out]; exact HQB.out, by omega, HBB.out⟩
      · obtain rfl : k = l.length := by omega
        rw [List.take_length] at HQ
        have HZ := Lib.hid (str_of HQ.out)
        go_wp2
        go_ret2
        exact ⟨HB.out, by rw [HZ.out]; rfl⟩
end Go.Proofs.YtefajplbgmikdaaDoor
