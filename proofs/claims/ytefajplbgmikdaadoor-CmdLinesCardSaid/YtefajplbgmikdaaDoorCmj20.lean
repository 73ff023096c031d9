/-
  The walk of the law CmdLines.
-/
import Derived.Test.YtefajplbgmikdaaDoorCmj18
import Derived.Test.YtefajplbgmikdaaDoorCmj19
import Derived.StillTailTactics
namespace Go.Proofs.YtefajplbgmikdaaDoor
open Go.RowKit

theorem repl_len : ∀ (l : List UInt8) (m : Nat), (replS m l).length ≤ l.length + 4 * m
  | [], m => by rw [replS]; simp
  | c :: r, m => by
    rw [replS]
    split
    · rename_i h
      have := repl_len r (m - 1)
      simp only [List.length_append, List.length_cons, List.length_nil]
      omega
    · have := repl_len r m
      simp only [List.length_cons]
      omega
theorem repl_end {S : List UInt8} {c : UInt8} {i m : Nat} (h : S[i]? = some c) (hc : c = 10) (hm : 0 < m) : replS m (S.drop i) = [32, 44, 10, 44, 10] ++ replS (m - 1) (S.drop (i + 1)) := by
  obtain ⟨hlt, he⟩ := List.getElem?_eq_some_iff.1 h
  rw [List.drop_eq_getElem_cons hlt, he, replS, if_pos ⟨hc, hm⟩]
theorem repl_else {S : List UInt8} {c : UInt8} {i m : Nat} (h : S[i]? = some c) (hc : ¬ (c = 10 ∧ 0 < m)) : replS m (S.drop i) = [c] ++ replS m (S.drop (i + 1)) := by
  obtain ⟨hlt, he⟩ := List.getElem?_eq_some_iff.1 h
  rw [List.drop_eq_getElem_cons hlt, he, replS, if_neg hc]
  rfl

set_option maxHeartbeats 8000000 in
set_option maxRecDepth 100000 in
theorem cmdLines_any (l : List Cm) (hl : ∀ c ∈ l, ∀ s ∈ c.path, s.v.length = 6) (hn : l.length ≤ 9223372036854775807) (v : Value) (n : Nat) (hn8 : n < 256) (w : World) (h : CmdRow w v l) (hb : Base w) :
    Calls Tryd.prog 11 #[v, .int .u8 n] w fun e w' => e = .returned (.bool true) ∧ Bel w w' := by
  have H := Lib.hid h
  have HL := Lib.hid hl
  have HB := Lib.hid hb
  have HWK : Hid (∀ V, Bel w V → _) := fun V h => wakesC_any (hb.on h)
  obtain ⟨p, c, rfl⟩ := h.form
  have HFA := Lib.hid (fair_any l _ w H.out hn)
  clear hl hb h
  go_enter Tryd.func11, Tryd.ntmps11
  cases hfa : fairS l with
  | false =>
    rw [hfa] at HFA
    clear hfa
    go_wp2_with (first
      | (go_at_call 22; (with_reducible refine (HFA.out).mono ?_); rintro e w1 ⟨rfl, hb1⟩; have HB1 := Lib.hid hb1; clear hb1)
      | (go_at_call 23; (with_reducible refine (HWK.out _ HB1.out).mono ?_); rintro e w2 ⟨rfl, hb2⟩; have HB2 := Lib.hid (HB1.out.trans hb2); clear hb2))
    exact bodyPost_ret (v := .bool true) (by simp [results, Tryd.results11, go_sem]) rfl ⟨rfl, HB2.out⟩
  | true =>
  have hfo := fair_ok hfa
  rw [hfa] at HFA
  have hok : ∀ c ∈ l, Ok1 c := fun c hc => by have := hfo.1 c hc; exact ⟨by omega, by omega⟩
  have h60 : l.length ≤ 60 := hfo.2
  obtain ⟨tb, E, hT1, hT2, hT3⟩ := textC_named l hok (by omega) (fun hg => by have := fair_len hg hfa; omega)
  have HTX : Hid (∀ w1, Bel w w1 → _) := fun w1 hb1 => hT3 _ w1 (H.out.bel hb1) (HB.out.on hb1).tab
  cases hg : goodC l with
  | false =>
    obtain ⟨rfl, rfl⟩ := hT2 hg
    clear hT1 hT2 hT3 hfa hok hfo hg hn
    go_wp2_with (first
      | (go_at_call 22; (with_reducible refine (HFA.out).mono ?_); rintro e w1 ⟨rfl, hb1⟩; have HB1 := Lib.hid hb1; clear hb1)
      | (go_at_call 24; (with_reducible refine (HTX.out _ HB1.out).mono ?_); rintro e w2 ⟨hb2, rfl⟩; have HB2 := Lib.hid (HB1.out.trans hb2); clear hb2)
      | (go_at_call 23; (with_reducible refine (HWK.out _ HB2.out).mono ?_); rintro e w3 ⟨rfl, hb3⟩; have HB3 := Lib.hid (HB2.out.trans hb3); clear hb3))
    exact bodyPost_ret (v := .bool true) (by simp [results, Tryd.results11, go_sem]) rfl ⟨rfl, HB3.out⟩
  | true =>
  obtain ⟨rfl, rfl⟩ := hT1 hg
  have hlen := fair_len hg hfa
  obtain ⟨hne, lb, hpb, hstb⟩ := parse_last hg HL.out (by omega)
  obtain ⟨M, hM⟩ : ∃ M, 1 + n % 5 = M := ⟨_, rfl⟩
  have hM5 : M ≤ 5 := by omega
  obtain ⟨la, hpa, hsta⟩ := parse_repl M hg HL.out (by omega)
  have HPA := Lib.hid (parse_str hpa HB.out)
  have HPB := Lib.hid (parse_str hpb HB.out)
  have hla : la.length = l.length := by have := congrArg List.length hsta; simpa using this
  have hlb : lb.length = l.length := by have := congrArg List.length hstb; simpa using this
  have HCA : Hid (∀ V v1 v2, Bel w V → CmdRow V v1 la → CmdRow V v2 l → _) := fun V v1 v2 _ h1 h2 => cmds_q false la l hsta (fun e => by cases e) (by omega) (strip_ok1 hsta hok) v1 v2 V h1 h2
  have HCB : Hid (∀ V v1 v2, Bel w V → CmdRow V v1 lb → CmdRow V v2 l → _) := fun V v1 v2 _ h1 h2 => cmds_q false lb l hstb (fun e => by cases e) (by omega) (strip_ok1 hstb hok) v1 v2 V h1 h2
  rw [hla] at HPA
  rw [hlb] at HPB
  obtain ⟨S, hS⟩ : ∃ S, textC l = S := ⟨_, rfl⟩
  rw [hS] at HTX HPA HPB hlen hne
  have tn : Int.tmod (n : Int) 5 = ((n % 5 : Nat) : Int) := Int.ofNat_tmod n 5 |>.symm
  have wn : IntKind.i64.wrap (n : Int) = n := IntWalk.i64_in _ (by omega)
  obtain ⟨r, hr⟩ : ∃ r, n % 5 = r := ⟨_, rfl⟩
  rw [hr] at tn hM
  have hr5 : r < 5 := by omega
  have hr5' : (r : Int) < 5 := by omega
  subst hM
  have hpos : 0 < S.length := List.length_pos_iff.2 hne
  obtain ⟨N, hN⟩ : ∃ N, S.length = N := ⟨_, rfl⟩
  have HN := Lib.hid hN
  rw [hN] at hlen hpos HPB
  have hsz : (⟨S.toArray⟩ : ByteArray).size = N := by rw [← hN]; rfl
  obtain ⟨sb, hsb⟩ : ∃ sb : ByteArray, (⟨S.toArray⟩ : ByteArray) = sb := ⟨_, rfl⟩
  have HSB := Lib.hid hsb
  rw [hsb] at hsz HTX
  clear hT1 hT2 hT3 hfa hok hfo hg hn hr hne hpb hpa hsta hstb hla hlb hS hN hsb hn8
  have HRL := Lib.hid (repl_len S (1 + r))
  go_upto_region 8 with (first
    | (go_at_call 22; (with_reducible refine (HFA.out).mono ?_); rintro e w1 ⟨rfl, hb1⟩; have HB1 := Lib.hid hb1; clear hb1)
    | (go_at_call 24; (with_reducible refine (HTX.out _ HB1.out).mono ?_); rintro e w2 ⟨hb2, rfl⟩; have HB2 := Lib.hid (HB1.out.trans hb2); clear hb2))
  go_wp2
  go_loopg [7, 8, 9] N (fun gf t7 t8 t9 wx => ∃ (T : ByteArray) (k i : Nat), t7 = .string T ∧ t8 = .int .i64 k ∧ t9 = .int .i64 i ∧ i ≤ N ∧ N ≤ i + gf ∧ k ≤ 1 + r ∧ T.data.toList ++ replS (1 + r - k) (S.drop i) = replS (1 + r) S ∧ wx = w2)
  case atStart => exact ⟨⟨#[]⟩, 0, 0, rfl, rfl, rfl, by omega, by omega, by omega, by simp, rfl⟩
  case round =>
    obtain ⟨T, k, i, rfl, rfl, rfl, hi, hig, hk, hT, hw⟩ := hrel
    have hTs : T.size ≤ 600040 := by
      have h1 := congrArg List.length hT
      have h2 := HRL.out
      have h3 := HN.out
      rw [List.length_append] at h1
      have h4 : T.data.toList.length = T.size := rfl
      omega
    have HT := Lib.hid hT
    obtain rfl := hw
    clear hT
    by_cases hlt : i < N
    · obtain ⟨gk', rfl⟩ : ∃ g, gk = g + 1 := ⟨gk - 1, by omega⟩
      obtain ⟨c, hc⟩ : ∃ c, S[i]? = some c := ⟨_, List.getElem?_eq_getElem (by rw [HN.out]; exact hlt)⟩
      have hsi : sb[i]'(by rw [hsz]; exact hlt) = c := by
        obtain ⟨h1, h2⟩ := List.getElem?_eq_some_iff.1 hc
        have h3 := HSB.out
        subst h3
        rw [← h2]
        rfl
      have HEX : Hid (sb.extract i (i + 1) = ⟨#[c]⟩) := by
        unfold Hid
        apply ByteArray.ext
        apply Array.ext'
        have h3 := HSB.out
        subst h3
        obtain ⟨h1, h2⟩ := List.getElem?_eq_some_iff.1 hc
        rw [Lib.extract_data]
        simp only [Nat.add_sub_cancel_left]
        rw [List.drop_eq_getElem_cons h1, h2]
        rfl
      have HC := Lib.hid hc
      have HSI := Lib.hid hsi
      clear hc hsi
      go_wp2
      · rename_i h10 hk1
        have hc10 : c = 10 := by
          have h1 := HSI.out
          rw [h1] at h10
          exact UInt8.toNat_inj.1 (by simpa using Int.ofNat.inj h10)
        go_roundg gk'
        case measure => omega
        case rel =>
          refine ⟨_, k + 1, i + 1, rfl, by go_num, by go_num, by omega, by omega, by omega, ?_, rfl⟩
          have h1 := HT.out
          rw [repl_end HC.out hc10 (by omega)] at h1
          rw [show 1 + r - (k + 1) = 1 + r - k - 1 by omega, ← h1]
          simp
      · rename_i h10 hk1
        go_roundg gk'
        case measure => omega
        case rel =>
          refine ⟨_, k, i + 1, rfl, rfl, by go_num, by omega, by omega, by omega, ?_, rfl⟩
          have h1 := HT.out
          rw [repl_else HC.out (fun e => by omega)] at h1
          rw [HEX.out, ← h1]
          simp
      · rename_i h10
        have hc10 : c ≠ 10 := by
          rintro rfl
          have h1 := HSI.out
          rw [h1] at h10
          exact h10 rfl
        go_roundg gk'
        case measure => omega
        case rel =>
          refine ⟨_, k, i + 1, rfl, rfl, by go_num, by omega, by omega, by omega, ?_, rfl⟩
          have h1 := HT.out
          rw [repl_else HC.out (fun e => hc10 e.1)] at h1
          rw [HEX.out, ← h1]
          simp
    · obtain rfl : i = N := by omega
      have HE1 : Hid ((⟨#[10, 10]⟩ : ByteArray) ++ T = ⟨([10, 10] ++ replS (1 + r) S).toArray⟩) := by
        have h1 := HT.out
        rw [List.drop_of_length_le (by have := HN.out; omega), replS, List.append_nil] at h1
        unfold Hid
        rw [← h1]
        apply ByteArray.ext
        simp
      have HE2 : Hid (sb.extract 0 (i - 1) = ⟨(List.take (i - 1) S).toArray⟩) := by
        have h3 := HSB.out
        subst h3
        unfold Hid
        apply ByteArray.ext
        apply Array.ext'
        rw [Lib.extract_data]
        simp
      have e1 : (i : Int) - 1 = ((i - 1 : Nat) : Int) := by omega
      go_upto_region 17 with (first
        | (go_at_call 28; ((with_reducible refine (HPA.out _ _ HE1.out HB2.out).mono ?_); rintro e w3 ⟨hb3, ap, ac, rfl, hs3⟩; have HB3 := Lib.hid (HB2.out.trans hb3); have HS3 := Lib.hid hs3; clear hb3 hs3)))
      go_upto_region 18 with (first
        | (go_at_call 28; ((with_reducible refine (HPB.out _ _ HE2.out HB3.out).mono ?_); rintro e w4 ⟨hb4, bp, bc, rfl, hs4⟩; have HB4 := Lib.hid (HB3.out.trans hb4); have HR4 := Lib.hid (HS3.out.bel hb4); have HS4 := Lib.hid hs4; clear hb4 hs4)))
      go_wp2_with (first
        | (go_at_call 29; ((with_reducible refine (HCA.out _ _ _ HB4.out HR4.out (H.out.bel HB4.out)).mono ?_); rintro e w5 ⟨rfl, m5, hm5⟩; have HB5 : Hid (Bel w w5) := hm5 ▸ HB4.out.drewN _; have HS5 := Lib.hid (HS4.out.bel (hm5 ▸ (Bel.refl w4).drewN _)); clear hm5))
        | (go_at_call 29; ((with_reducible refine (HCB.out _ _ _ HB5.out HS5.out (H.out.bel HB5.out)).mono ?_); rintro e w6 ⟨rfl, m6, hm6⟩; have HB6 : Hid (Bel w w6) := hm6 ▸ HB5.out.drewN _; clear hm6))
        | (go_at_call 23; (with_reducible refine (HWK.out _ HB6.out).mono ?_); rintro e w8 ⟨rfl, hb8⟩; have HB8 := Lib.hid (HB6.out.trans hb8); clear hb8))
      exact bodyPost_ret (v := .bool true) (by simp [results, Tryd.results11, go_sem]) rfl ⟨rfl, HB8.out⟩
end Go.Proofs.YtefajplbgmikdaaDoor
