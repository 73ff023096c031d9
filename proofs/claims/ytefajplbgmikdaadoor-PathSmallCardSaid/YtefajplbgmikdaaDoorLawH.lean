/-
  The walks of the reference's End and of the law PathSmall.
-/
import Derived.Test.YtefajplbgmikdaaDoorRefC
import Derived.Test.YtefajplbgmikdaaDoorCopy
import Derived.Test.YtefajplbgmikdaaDoorTextSmall
namespace Go.Proofs.YtefajplbgmikdaaDoor
open Go.RowKit

def endS (s : Sg) (sx sy : Int) : Int × Int := if s.kind = 6 then (sx, sy) else (s.v.getD (countK s.kind - 2) 0, s.v.getD (countK s.kind - 1) 0)
set_option maxHeartbeats 1000000 in
set_option maxRecDepth 100000 in
theorem end_any (sk v0 v1 v2 v3 v4 v5 sw sx sy : Int) (h1 : 1 ≤ sk) (h2 : sk ≤ 6) (w : World) :
    Calls Tryd.prog 21 #[.agg #[.int .i64 sk, .int .i64 v0, .int .i64 v1, .int .i64 v2, .int .i64 v3, .int .i64 v4, .int .i64 v5, .int .i64 sw], .int .i64 sx, .int .i64 sy] w fun e w' =>
      e = .returned (.tuple #[.int .i64 (endS ⟨sk, [v0, v1, v2, v3, v4, v5], sw⟩ sx sy).1, .int .i64 (endS ⟨sk, [v0, v1, v2, v3, v4, v5], sw⟩ sx sy).2]) ∧ Bel w w' := by
  have HB : Hid (Bel w (w.alloc (.cells #[.int .i64 sk, .int .i64 v0, .int .i64 v1, .int .i64 v2, .int .i64 v3, .int .i64 v4, .int .i64 v5, .int .i64 sw] 36))) := (Bel.refl w).alloc _
  have HQ : Hid ((w.alloc (.cells #[.int .i64 sk, .int .i64 v0, .int .i64 v1, .int .i64 v2, .int .i64 v3, .int .i64 v4, .int .i64 v5, .int .i64 sw] 36)).heap[w.heap.size]? = _) := heap_alloc_new _ _
  go_enter Tryd.func21, Tryd.ntmps21
  go_upto_region 1 with fail
  generalize w.alloc (.cells #[.int .i64 sk, .int .i64 v0, .int .i64 v1, .int .i64 v2, .int .i64 v3, .int .i64 v4, .int .i64 v5, .int .i64 sw] 36) = V at HB HQ ⊢
  generalize w.heap.size = T at HQ ⊢
  have q0 := sgb_c0 HQ.out
  have q1 : V.cell? ⟨T, 1, none⟩ = some (.int .i64 v0) := by rw [heap_cell HQ.out]; rfl
  have q2 : V.cell? ⟨T, 2, none⟩ = some (.int .i64 v1) := by rw [heap_cell HQ.out]; rfl
  have q3 : V.cell? ⟨T, 3, none⟩ = some (.int .i64 v2) := by rw [heap_cell HQ.out]; rfl
  have q4 : V.cell? ⟨T, 4, none⟩ = some (.int .i64 v3) := by rw [heap_cell HQ.out]; rfl
  have q5 : V.cell? ⟨T, 5, none⟩ = some (.int .i64 v4) := by rw [heap_cell HQ.out]; rfl
  have q6 : V.cell? ⟨T, 6, none⟩ = some (.int .i64 v5) := by rw [heap_cell HQ.out]; rfl
  rcases kind_cases h1 h2 with rfl | rfl | rfl | rfl | rfl | rfl
  · go_upto_region 4 with fail
    go_quiet (fail)
    go_wp2
    go_ret2
    exact ⟨rfl, HB.out.drewN _⟩
  · go_upto_region 4 with fail
    go_quiet (fail)
    go_wp2
    go_ret2
    exact ⟨rfl, HB.out.drewN _⟩
  · go_upto_region 7 with fail
    go_quiet (fail)
    go_wp2
    go_ret2
    exact ⟨rfl, HB.out.drewN _⟩
  · go_upto_region 9 with fail
    go_quiet (fail)
    go_wp2
    go_ret2
    exact ⟨rfl, HB.out.drewN _⟩
  · go_upto_region 7 with fail
    go_quiet (fail)
    go_wp2
    go_ret2
    exact ⟨rfl, HB.out.drewN _⟩
  · go_wp2
    go_ret2
    exact ⟨rfl, HB.out⟩

theorem lawdec_op (v : Int) (h : -4611686018427387904 ≤ v ∧ v ≤ 4611686018427387904) (w : World) :
    Calls Tryd.prog 19 #[.int .i64 v] w fun e w' => Bel w w' ∧ ∃ z : ByteArray, e = .returned (.string z) ∧ z.data.toList = Lib.itoa v ∧ z.size ≤ 21 :=
  (lawdec_any v h w).mono fun e w' ⟨he, hb⟩ => ⟨hb, _, he, rfl, Lib.itoa_length_le v (by omega) (by omega)⟩
theorem letter_ext3 {k : Int} (h1 : 1 ≤ k) (h2 : k ≤ 6) : (⟨#[63, 109, 108, 113, 99, 107, 122]⟩ : ByteArray).extract k.toNat (k + 1).toNat = ⟨#[letterB k + 32]⟩ := by
  rcases kind_cases h1 h2 with rfl | rfl | rfl | rfl | rfl | rfl <;> rfl
theorem relN_at {p : Pen} : ∀ {l : List Int} {i m : Nat} {v : Int}, l[m]? = some v → (relN true p l i)[m]? = some (v - if (i + m) % 2 = 1 then p.y else p.x)
  | [], _, _, _, h => by simp at h
  | u :: l, i, 0, v, h => by
    simp only [List.getElem?_cons_zero, Option.some.injEq] at h
    subst h
    simp [relN]
  | u :: l, i, m + 1, v, h => by
    rw [List.getElem?_cons_succ] at h
    have := relN_at (p := p) (i := i + 1) h
    rw [relN, List.getElem?_cons_succ, this, show i + 1 + m = i + (m + 1) by omega]
theorem next_end (p : Pen) (s : Sg) : (endS s (nextP p s).fx (nextP p s).fy).1 = (nextP p s).x ∧ (endS s (nextP p s).fx (nextP p s).fy).2 = (nextP p s).y := by
  unfold endS nextP moveS
  dsimp only
  by_cases h : s.kind = 6
  · have h1 : ¬ s.kind = 1 := by omega
    rw [if_pos h, if_pos h, if_pos h, if_neg h1, if_neg h1]; exact ⟨rfl, rfl⟩
  · rw [if_neg h, if_neg h, if_neg h]; exact ⟨rfl, rfl⟩
theorem next_not (p : Pen) (s : Sg) (h : s.kind ≠ 1) : (nextP p s).fx = p.fx ∧ (nextP p s).fy = p.fy := by
  unfold nextP moveS
  dsimp only
  rw [if_neg h, if_neg h]
  exact ⟨rfl, rfl⟩

set_option maxHeartbeats 4000000 in
set_option maxRecDepth 100000 in
theorem pathSmall_any (l : List Sg) (hl : ∀ s ∈ l, s.v.length = 6) (v : Value) (w : World) (h : SegRow w w.heap.size v l) (hb : Base w) :
    Calls Tryd.prog 5 #[v] w fun e w' => e = .returned (.bool true) ∧ Bel w w' := by
  have H := Lib.hid h
  have HL := Lib.hid hl
  have HB0 := Lib.hid hb
  have HWK : Hid (∀ V, Bel w V → _) := fun V h => wakes_base (hb.on h)
  obtain ⟨p, c, rfl, hc, _⟩ := h
  clear hl hb
  go_enter Tryd.func5, Tryd.ntmps5
  by_cases h60 : 60 < l.length
  · have h1 : decide ((60 : Int) < (l.length : Int)) = true := decide_eq_true (by omega)
    go_wp2_with (first
      | (go_at_call 12; (with_reducible refine (HWK.out _ (Bel.refl _)).mono ?_); rintro e w2 ⟨rfl, hb2⟩; have HB2 := Lib.hid hb2; clear hb2))
    go_ret
    exact ⟨rfl, HB2.out⟩
  have h1 : decide ((60 : Int) < (l.length : Int)) = false := decide_eq_false (by omega)
  have HGO := Lib.hid (refGood_any l HL.out (by omega) _ w H.out)
  cases hg : goodS l with
  | false =>
    rw [hg] at HGO
    clear hg
    go_wp2_with (first
      | (go_at_call 16; (with_reducible refine (HGO.out).mono ?_); rintro e w2 ⟨rfl, hw2⟩; obtain rfl := hw2.symm)
      | (go_at_call 12; (with_reducible refine (HWK.out _ (Bel.refl _)).mono ?_); rintro e w2 ⟨rfl, hb2⟩; have HB2 := Lib.hid hb2; clear hb2))
    go_ret
    exact ⟨rfl, HB2.out⟩
  | true =>
    rw [hg] at HGO
    have hof := of_small hg HL.out
    obtain ⟨_, _, hall, _⟩ := good_parts hg
    have HALL := Lib.hid hall
    have HOFS := Lib.hid hof
    have HSE : Hid (∀ V v1 v2, SegRow V V.heap.size v1 l → SegRow V V.heap.size v2 l → _) := fun V v1 v2 h1 h2 => segs_eq l HL.out (by omega) v1 v2 V h1 h2
    clear hg hall hof
    go_upto_region 6 with (first
      | (go_at_call 16; (with_reducible refine (HGO.out).mono ?_); rintro e w2 ⟨rfl, hw2⟩; obtain rfl := hw2.symm))
    go_wp2_with fail
    go_loopg [3, 4, 5, 6, 7, 8] l.length (fun gf s3 s4 s5 s6 s7 i wx => ∃ (k : Nat) (q : ByteArray) (p : Pen), s3 = .string q ∧ s4 = .int .i64 p.x ∧ s5 = .int .i64 p.y ∧ s6 = .int .i64 p.fx ∧ s7 = .int .i64 p.fy ∧ i = .int .i64 k ∧ k ≤ l.length ∧ l.length ≤ k + gf ∧ q.data.toList ++ smallS (l.drop k) p = smallS l pen0 ∧ q.size ≤ 200 * k ∧ PenOk p ∧ Bel w wx)
    case atStart => exact ⟨0, ⟨#[]⟩, pen0, rfl, rfl, rfl, rfl, rfl, rfl, by omega, by omega, rfl, Nat.le_refl _, pen0_ok, Bel.refl _⟩
    case round =>
      obtain ⟨k, q, p, rfl, rfl, rfl, rfl, rfl, rfl, hkl, hkg, hq, hqs, hpk, hb⟩ := hrel
      have HQ := Lib.hid hq
      have HB := Lib.hid hb
      have HPK := Lib.hid hpk
      clear hq hb hpk
      by_cases hk : k < l.length
      · obtain ⟨gk', rfl⟩ : ∃ g, gk = g + 1 := ⟨gk - 1, by omega⟩
        obtain ⟨s, hs⟩ : ∃ s, l[k]? = some s := ⟨_, List.getElem?_eq_getElem hk⟩
        have h6 := HL.out s (List.mem_of_getElem? hs)
        have hgo := HALL.out s (List.mem_of_getElem? hs)
        have HST : Hid (smallS (l.drop k) p = smB p s ++ smallS (l.drop (k + 1)) (nextP p s)) := by
          unfold Hid
          obtain ⟨hlt, he⟩ := List.getElem?_eq_some_iff.1 hs
          rw [List.drop_eq_getElem_cons hlt, he, smallS]
        have HNP : Hid (PenOk (nextP p s)) := move_ok HPK.out (sg_of_good hgo h6)
        obtain ⟨hgk, hgn, hww⟩ := good_all hgo
        have HEN := Lib.hid (next_end p s)
        obtain ⟨sk, sv, sw⟩ := s
        dsimp only at h6
        obtain ⟨v0, v1, v2, v3, v4, v5, rfl⟩ := six h6
        dsimp only at hgk hgn
        obtain ⟨hk1, hk2⟩ := hgk
        have HCO : Hid (∀ x ∈ [v0, v1, v2, v3, v4, v5], Co x) := fun x hx => inR_iff.1 (goodN_in hgn x hx)
        have HWW : Hid (sk = 5 → 1 ≤ sw ∧ sw ≤ 4096) := by
          intro e
          unfold goodW at hww
          dsimp only at hww
          rw [if_pos e] at hww
          simpa using hww
        have HS := Lib.hid hs
        clear hgo h6 hgn hww hs
        have hex := letter_ext3 hk1 hk2
        obtain ⟨bb, oo, cc, he, _, _, q0, q1, q2, q3, q4, q5, q6, q7⟩ := (H.out.bel HB.out).at HS.out
        simp only [Value.slice.injEq] at he
        obtain ⟨rfl, _, rfl⟩ := he
        have hk60 : k ≤ 60 := by omega
        go_upto_region 8 with fail
        go_quiet (fail)
        go_upto_if 50 with fail
        have HBD : Hid (Bel wr (wr.drewN nq)) := (Bel.refl _).drewN _
        generalize wr.drewN nq = wd at HBD ⊢
        go_cut [3] from 24 to 122 (fun s4 wx => ∃ qa : ByteArray, s4 = .string qa ∧ qa.data.toList = q.data.toList ++ ((letterB sk + 32) :: (if sk = 5 then Lib.itoa sw else [])) ∧ qa.size ≤ 200 * k + 30 ∧ Bel wr wx)
        case first =>
          by_cases h5 : sk = 5
          · have h5' : (sk == 5) = true := by simpa using h5
            have hww := HWW.out h5
            have HP : Hid (((letterB sk + 32) :: (if sk = 5 then Lib.itoa sw else [])) = (letterB sk + 32) :: Lib.itoa sw) := by unfold Hid; rw [if_pos h5]
            have HDE := Lib.hid (fun V => lawdec_op sw (by omega) V)
            have r7 := HBD.out.cell q7
            clear h5
            go_wp2_with (first
              | (go_at_call 19; (with_reducible refine (HDE.out _).mono ?_); rintro e w3 ⟨hb3, z, rfl, hz, hzs⟩; have HZ := Lib.hid hz; have HB3 := Lib.hid (HBD.out.trans hb3); clear hb3 hz))
            go_meet
            exact ⟨_, rfl, by rw [HP.out]; simp [HZ.out], by simp [bz1]; omega, HB3.out⟩
          · have h5' : (sk == 5) = false := by simpa using h5
            have HP : Hid (((letterB sk + 32) :: (if sk = 5 then Lib.itoa sw else [])) = [letterB sk + 32]) := by unfold Hid; rw [if_neg h5]
            clear h5
            go_wp2
            go_meet
            exact ⟨_, rfl, by rw [HP.out]; simp, by simp [bz1]; omega, HBD.out⟩
        case rest =>
        obtain ⟨qa, rfl, hqa, hsa, hba⟩ := hcut
        have HBA := Lib.hid (HB.out.trans hba)
        clear hba HBD q0 q1 q2 q3 q4 q5 q6 q7 hex
        have HQA := Lib.hid hqa
        obtain ⟨n, hn'⟩ : ∃ n, countK sk = n := ⟨_, rfl⟩
        have hcn : n ≤ 6 := by rw [← hn']; exact (ruleK_facts hk1 hk2).2.2.2.2.2.2.2.2.2.2
        obtain ⟨R, hR⟩ : ∃ R, relN true p ([v0, v1, v2, v3, v4, v5].take n) 0 = R := ⟨_, rfl⟩
        have HSM : Hid (q.data.toList ++ smB p ⟨sk, [v0, v1, v2, v3, v4, v5], sw⟩ = qa.data.toList ++ smN R) := by
          unfold Hid smB smW
          dsimp only
          rw [hqa, hn', hR]
          simp
        have HRL : Hid (R.length = n) := by unfold Hid; rw [← hR, relN_len, List.length_take]; simp; omega
        have HRA : Hid (∀ (m : Nat) (x : Int), m < n → [v0, v1, v2, v3, v4, v5][m]? = some x → R[m]? = some (x - if m % 2 = 1 then p.y else p.x)) := fun m x hm hx => by
          have := relN_at (p := p) (l := [v0, v1, v2, v3, v4, v5].take n) (i := 0) (m := m) (v := x) (by rw [List.getElem?_take, if_pos hm]; exact hx)
          rw [hR, Nat.zero_add] at this
          exact this
        have HUS : Hid (∀ V, Calls Tryd.prog 20 #[.int .i64 sk] V fun e w' => e = .returned (.int .i64 n) ∧ w' = V) := fun V => by
          have := used_any sk V
          unfold usedS at this
          rw [if_pos ⟨hk1, hk2⟩, hn'] at this
          exact this
        have hpx := HPK.out.x
        have hpy := HPK.out.y
        unfold Co at hpx hpy
        obtain ⟨P, hP⟩ : ∃ P, nextP p ⟨sk, [v0, v1, v2, v3, v4, v5], sw⟩ = P := ⟨_, rfl⟩
        have HPE := Lib.hid hP
        rw [hP] at HST HNP HEN
        have HE : Hid (∀ V, Calls Tryd.prog 21 #[.agg #[.int .i64 sk, .int .i64 v0, .int .i64 v1, .int .i64 v2, .int .i64 v3, .int .i64 v4, .int .i64 v5, .int .i64 sw], .int .i64 P.fx, .int .i64 P.fy] V fun e w' => e = .returned (.tuple #[.int .i64 P.x, .int .i64 P.y]) ∧ Bel V w') := fun V => by
          have := end_any sk v0 v1 v2 v3 v4 v5 sw P.fx P.fy hk1 hk2 V
          rw [HEN.out.1, HEN.out.2] at this
          exact this
        clear hqa hn' hR HWW hP HEN
        go_wp2
        go_loopg [3, 10] n (fun gf s3 i wx => ∃ (m : Nat) (qb : ByteArray), s3 = .string qb ∧ i = .int .i64 m ∧ m ≤ n ∧ n ≤ m + gf ∧ qb.data.toList = qa.data.toList ++ smN (R.take m) ∧ qb.size ≤ 200 * k + 30 + 25 * m ∧ Bel w wx)
        case atStart => exact ⟨0, _, rfl, rfl, by omega, by omega, by simp [smN], by omega, HBA.out⟩
        case round =>
          obtain ⟨m, qb, rfl, rfl, hm6, hmg, hqb, hsb, hbb⟩ := hrel
          have HQB := Lib.hid hqb
          have HBB := Lib.hid hbb
          clear hqb hbb
          obtain ⟨b2, o2, c2, he, _, _, q0, q1, q2, q3, q4, q5, q6, q7⟩ := (H.out.bel HBB.out).at HS.out
          simp only [Value.slice.injEq, Option.some.injEq, Addr.mk.injEq] at he
          obtain ⟨⟨rfl, rfl, _⟩, _, rfl⟩ := he
          by_cases hm : m < n
          · obtain ⟨gm, rfl⟩ : ∃ g, gk = g + 1 := ⟨gk - 1, by omega⟩
            obtain ⟨x, hx⟩ : ∃ x, [v0, v1, v2, v3, v4, v5][m]? = some x := ⟨_, List.getElem?_eq_getElem (by simp; omega)⟩
            have hcx := HCO.out x (List.mem_of_getElem? hx)
            unfold Co at hcx
            have hxc : wr.cell? ⟨bb, oo + k * 8 + 1 + m, none⟩ = some (.int .i64 x) := by
              have hj : m = 0 ∨ m = 1 ∨ m = 2 ∨ m = 3 ∨ m = 4 ∨ m = 5 := by omega
              rcases hj with rfl | rfl | rfl | rfl | rfl | rfl <;> (simp at hx; subst hx; assumption)
            obtain ⟨D, hD⟩ : ∃ D, (x - if m % 2 = 1 then p.y else p.x) = D := ⟨_, rfl⟩
            have hD1 : -4611686018427387904 ≤ D ∧ D ≤ 4611686018427387904 := by
              rw [← hD]
              split <;> omega
            have HTK : Hid (smN (R.take (m + 1)) = smN (R.take m) ++ 32 :: Lib.itoa D) := by
              unfold Hid smN
              rw [List.take_add_one, HRA.out m x hm hx, hD]
              simp
            have HDE := Lib.hid (fun V => lawdec_op D hD1 V)
            have HDD := Lib.hid hD
            clear hx hD hD1
            go_upto_if 80 with (first
              | (go_at_call 20; (with_reducible refine (HUS.out _).mono ?_); rintro e w2 ⟨rfl, hw2⟩; obtain rfl := hw2.symm))
            go_cut [11] from 59 to 94 (fun s11 wx => s11 = .int .i64 D ∧ wr = wx)
            case first =>
              by_cases hp : m % 2 = 1
              · have hp' : ((m : Int) % 2 == 1) = true := by simp; omega
                have HP : Hid (x - p.y = D) := by unfold Hid; rw [← HDD.out, if_pos hp]
                clear hp
                go_wp2
                go_meet
                exact ⟨by rw [HP.out], rfl⟩
              · have hp' : ((m : Int) % 2 == 1) = false := by simp; omega
                have HP : Hid (x - p.x = D) := by unfold Hid; rw [← HDD.out, if_neg hp]
                clear hp
                go_wp2
                go_meet
                exact ⟨by rw [HP.out], rfl⟩
            case rest =>
            obtain ⟨rfl, hw9⟩ := hcut
            obtain rfl := hw9
            go_wp2_with (first
              | (go_at_call 19; (with_reducible refine (HDE.out _).mono ?_); rintro e w3 ⟨hb3, z, rfl, hz, hzs⟩; have HZ := Lib.hid hz; have HB3 := Lib.hid (HBB.out.trans hb3); clear hb3 hz))
            go_roundg gm
            case measure => omega
            case rel => exact ⟨m + 1, _, rfl, rfl, by omega, by omega, by rw [HTK.out]; simp [HQB.out, HZ.out], by simp [bz1]; omega, HB3.out⟩
          · obtain rfl : m = n := by omega
            have HFIN : Hid (qb.data.toList ++ smallS (l.drop (k + 1)) P = smallS l pen0) := by
              unfold Hid
              rw [← HQ.out, HST.out, HQB.out, ← List.append_assoc, HSM.out, List.take_of_length_le (Nat.le_of_eq HRL.out)]
            go_upto_if 100 with (first
              | (go_at_call 20; (with_reducible refine (HUS.out _).mono ?_); rintro e w2 ⟨rfl, hw2⟩; obtain rfl := hw2.symm))
            go_cut [6, 7] from 24 to 122 (fun s6 s7 wx => s6 = .int .i64 P.fx ∧ s7 = .int .i64 P.fy ∧ Bel wr wx)
            case first =>
              by_cases k1 : sk = 1
              · have k1' : (sk == 1) = true := by simpa using k1
                have HF : Hid (P.fx = v0 ∧ P.fy = v1) := by
                  unfold Hid
                  rw [← HPE.out, k1]
                  exact ⟨rfl, rfl⟩
                clear k1
                go_upto_region 20 with fail
                go_quiet (fail)
                go_wp2
                go_meet
                exact ⟨by rw [HF.out.1], by rw [HF.out.2], (Bel.refl _).drewN _⟩
              · have k1' : (sk == 1) = false := by simpa using k1
                have HF : Hid (P.fx = p.fx ∧ P.fy = p.fy) := by
                  unfold Hid
                  rw [← HPE.out]
                  exact next_not p _ k1
                clear k1
                go_wp2
                go_meet
                exact ⟨by rw [HF.out.1], by rw [HF.out.2], Bel.refl _⟩
            case rest =>
            obtain ⟨rfl, rfl, hb9⟩ := hcut
            have HB9 := Lib.hid (HBB.out.trans hb9)
            clear q0 q1 q2 q3 q4 q5 q6 q7
            obtain ⟨b2, o2, c2, he, _, _, q0, q1, q2, q3, q4, q5, q6, q7⟩ := (H.out.bel HB9.out).at HS.out
            simp only [Value.slice.injEq, Option.some.injEq, Addr.mk.injEq] at he
            obtain ⟨⟨rfl, rfl, _⟩, _, rfl⟩ := he
            clear hb9
            go_wp2_with (first
              | (go_at_call 21; (with_reducible refine (HE.out _).mono ?_); rintro e w3 ⟨rfl, hb3⟩; have HB3 := Lib.hid (HB9.out.trans hb3); clear hb3))
            go_roundg gk'
            case measure => omega
            case rel => exact ⟨k + 1, _, P, rfl, rfl, rfl, rfl, rfl, rfl, by omega, by omega, HFIN.out, by omega, HNP.out, HB3.out⟩
      · obtain rfl : k = l.length := by omega
        rw [List.drop_length, smallS, List.append_nil] at HQ
        have HOF := Lib.hid (of_ok HOFS.out (by rw [← HQ.out]; show q.size ≤ _; omega) wr (HB0.out.on HB.out).rul (HB0.out.on HB.out).lt)
        rw [← str_of HQ.out] at HOF
        go_upto_region 23 with (first
          | (go_at_call 18; (with_reducible refine (HOF.out).mono ?_); rintro e w3 ⟨hb3, va, rfl, hs3⟩; have HB3 := Lib.hid (HB.out.trans hb3); have HS3 := Lib.hid (SRow.read hs3 HL.out); (obtain ⟨ap, ac, rfl, _⟩ := hs3.form); clear hb3 hs3))
        go_wp2_with (first
          | (go_at_call 17; (with_reducible refine (HSE.out _ _ _ HS3.out (H.out.bel HB3.out)).mono ?_); rintro e w7 ⟨rfl, hb7⟩; have HB7 := Lib.hid (HB3.out.trans hb7); clear hb7)
          | (go_at_call 12; (with_reducible refine (HWK.out _ HB7.out).mono ?_); rintro e w8 ⟨rfl, hb8⟩; have HB8 := Lib.hid (HB7.out.trans hb8); clear hb8))
        go_ret
        exact ⟨rfl, HB8.out⟩
end Go.Proofs.YtefajplbgmikdaaDoor
