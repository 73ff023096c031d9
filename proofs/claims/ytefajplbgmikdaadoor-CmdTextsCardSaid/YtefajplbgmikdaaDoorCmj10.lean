/-
  The walk of the law's 'of': the path of a text.
-/
import Derived.Test.YtefajplbgmikdaaDoorCmj7
import Derived.Test.YtefajplbgmikdaaDoorCmj9
import Derived.Test.YtefajplbgmikdaaDoorCmj2
import Derived.ChangeKeysEq
import Derived.Laws.StructEq
import Derived.Test.YtefajplbgmikdaaDoorCmj5
namespace Go.Proofs.YtefajplbgmikdaaDoor
open Go.RowKit

theorem numN_le2 : ∀ (l : List UInt8) (n : Nat), n ≤ 4611686018427387904 → numN n l ≤ 4611686018427387904
  | [], n, h => h
  | c :: l, n, h => by
    rw [numN]
    split
    · exact Nat.le_refl _
    · rename_i hx
      refine numN_le2 l _ ?_
      by_cases hc : c.toNat - 48 ≤ 4611686018427387904
      · omega
      · have : (4611686018427387904 - (c.toNat - 48)) / 10 = 0 := by omega
        have := c.toNat_lt
        omega
/-- What the tokens of a text are. -/
theorem cut_tok : ∀ (l : List UInt8) (i tt : Nat) (ts : List Tok), cutL l i tt = .ok ts → i + l.length ≤ 1048576 → (∀ t ∈ ts, TkOk t) ∧ wt ts ≤ 2 * (l.length - (tt - i))
  | [], i, tt, ts, h, _ => by
    simp only [cutL, Except.ok.injEq] at h
    subst h
    simp [wt]
  | c :: r, i, tt, ts, h, hi => by
    have hlen : (c :: r).length = r.length + 1 := rfl
    rw [hlen] at hi ⊢
    rw [cutL] at h
    split at h
    · have := cut_tok r (i + 1) tt ts h (by omega)
      exact ⟨this.1, by omega⟩
    · rename_i hto
      have hmap : ∀ {t : Tok} {x : Except Nat (List Tok)}, x.map (t :: ·) = .ok ts → ∃ rs, x = .ok rs ∧ ts = t :: rs := by
        intro t x hx
        cases x with
        | error e => simp [Except.map] at hx
        | ok rs => simp only [Except.map, Except.ok.injEq] at hx; exact ⟨rs, rfl, hx.symm⟩
      have hcons : ∀ {t : Tok} {rs : List Tok} {tq : Nat}, cutL r (i + 1) tq = .ok rs → ts = t :: rs → TkOk t → t.s.length + 1 ≤ 2 * (tq - i) → i < tq → (∀ t ∈ ts, TkOk t) ∧ wt ts ≤ 2 * (r.length + 1 - (tt - i)) ∨ r.length + 1 < tq - i := by
        intro t rs tq hr he ht hw hlt
        have ih := cut_tok r (i + 1) tq rs hr (by omega)
        subst he
        by_cases hle : tq - i ≤ r.length + 1
        · left
          refine ⟨fun x hx => ?_, by simp only [wt]; omega⟩
          rcases List.mem_cons.1 hx with rfl | hx
          · exact ht
          · exact ih.1 x hx
        · right; omega
      split at h
      · have := cut_tok r (i + 1) tt ts h (by omega)
        exact ⟨this.1, by omega⟩
      split at h
      · rename_i hk
        obtain ⟨rs, h1, h2⟩ := hmap h
        have hrl := runL_le 2 (c :: r)
        have hrp : 1 ≤ runL 2 (c :: r) := by rw [runL_pos hk]; omega
        rw [hlen] at hrl
        rcases hcons h1 h2 ⟨by show (0 : Int) ≤ i; omega, by show (i : Int) ≤ _; omega, by rw [List.length_take]; omega, by dsimp only; omega, by dsimp only; omega⟩ (by rw [List.length_take]; omega) (by omega) with h | h
        · exact h
        · omega
      split at h
      · rename_i hk
        obtain ⟨rs, h1, h2⟩ := hmap h
        have hrl := runL_le 3 (c :: r)
        have hrp : 1 ≤ runL 3 (c :: r) := by rw [runL_pos hk]; omega
        rw [hlen] at hrl
        have hn := numN_le2 ((c :: r).take (runL 3 (c :: r))) 0 (by omega)
        rcases hcons h1 h2 ⟨by show (0 : Int) ≤ i; omega, by show (i : Int) ≤ _; omega, by simp, by dsimp only; omega, by dsimp only; omega⟩ (by simp; omega) (by omega) with h | h
        · exact h
        · omega
      split at h
      · split at h
        · cases h
        · obtain ⟨rs, h1, h2⟩ := hmap h
          have hrl := runL_le 3 r
          have hn := numN_le2 (r.take (runL 3 r)) 0 (by omega)
          rcases hcons h1 h2 ⟨by show (0 : Int) ≤ i; omega, by show (i : Int) ≤ _; omega, by simp, by dsimp only; omega, by dsimp only; omega⟩ (by simp; omega) (by omega) with h | h
          · exact h
          · omega
      split at h
      · obtain ⟨rs, h1, h2⟩ := hmap h
        rcases hcons h1 h2 ⟨by show (0 : Int) ≤ i; omega, by show (i : Int) ≤ _; omega, by simp, by dsimp only; omega, by dsimp only; omega⟩ (by simp) (by omega) with h | h
        · exact h
        · omega
      · cases h

theorem toks_row {w : World} {base : Nat} {v : Value} {l : List Tok} (h : w.ownsRow base 106 4 v l.length (toksC l)) : TokRow w w.heap.size v l := by
  obtain ⟨hl2, h0 | ⟨g2, cap2, cur2, e2, hb2, hg2, hn2, _, hs2, ht2⟩⟩ := h
  · exact ⟨none, 0, by rw [h0.1, h0.2], by omega, .inl (List.eq_nil_of_length_eq_zero h0.2)⟩
  · refine ⟨_, cap2, e2, hn2, .inr ⟨g2, 0, rfl, heap_lt hg2, fun i t hi j v hj => ?_⟩⟩
    rw [heap_cell hg2, ← Array.getElem?_toList]
    have h3 : (toksC l)[i * 4 + j]? = some v := flat_at (f := tokC) (n := 4) (fun _ _ => rfl) hi hj
    rw [← ht2, List.getElem?_take] at h3
    split at h3
    · rw [Nat.zero_add]; exact h3
    · cases h3
theorem SRow.read {w : World} {base : Nat} {v : Value} {l : List Sg} (h : SRow w base v l) (h6 : ∀ s ∈ l, s.v.length = 6) : SegRow w w.heap.size v l := by
  obtain ⟨hl2, h0 | ⟨g2, cap2, cur2, e2, hb2, hg2, hn2, _, hs2, ht2⟩⟩ := h
  · exact ⟨none, 0, by rw [h0.1, h0.2], by omega, .inl (List.eq_nil_of_length_eq_zero h0.2)⟩
  · refine ⟨_, cap2, e2, hn2, .inr ⟨g2, 0, rfl, heap_lt hg2, fun i t hi j v hj => ?_⟩⟩
    rw [heap_cell hg2, ← Array.getElem?_toList]
    have h3 : (l.flatMap sgC)[i * 8 + j]? = some v := flat_at (f := sgC) (n := 8) (fun s hs => by simp [sgC, h6 s hs]) hi hj
    rw [← ht2, List.getElem?_take] at h3
    split at h3
    · rw [Nat.zero_add]; exact h3
    · cases h3

theorem parse_three {w : World} {R : Except (Int × Int) (List Sg)} {e : Ending} {w' : World} (h : ParsePost w R e w') : ∃ v a c, e = .returned (.tuple #[v, .int .i64 a, .int .i64 c]) := by
  obtain ⟨_, h⟩ := h
  cases R with
  | error a => exact ⟨_, _, _, h⟩
  | ok l => obtain ⟨v, h, _⟩ := h; exact ⟨_, _, _, h⟩
/-- What 'of' tells. -/
def OfPost (s : List UInt8) (w : World) (e : Ending) (w' : World) : Prop := ParsePost w (ofS s) e w'
set_option maxHeartbeats 2000000 in
set_option maxRecDepth 100000 in
theorem of_any (s : List UInt8) (hs : s.length ≤ 1048576) (w : World) (hr : Rul w) (hg : 2 < w.heap.size) :
    Calls Tryd.prog 18 #[.string ⟨s.toArray⟩] w (OfPost s w) := by
  have hcut := cut_any ⟨s.toArray⟩ w
  have hsz : (⟨s.toArray⟩ : ByteArray).size = s.length := rfl
  have hbl : bl ⟨s.toArray⟩ = s := rfl
  have hcut2 : Calls Tryd.prog 38 #[.string ⟨s.toArray⟩] w (CutPost ⟨s.toArray⟩ w) := hcut.mono fun e w' h => h.elim (fun h => absurd h.1 (by rw [hsz]; omega)) (fun h => h.2)
  have HC := Lib.hid hcut2
  obtain ⟨sb, hsb⟩ : ∃ sb : ByteArray, (⟨s.toArray⟩ : ByteArray) = sb := ⟨_, rfl⟩
  rw [hsb] at HC hsz hbl ⊢
  have HSB := Lib.hid hsb
  clear hcut hcut2 hsb
  cases hc : cutL s 0 0 with
  | error i =>
    have HE : Hid (∀ w', Bel w w' → OfPost s w (.returned (.tuple #[.slice none 0 0, .int .i64 i, .int .i64 20])) w') := fun w' hb => by
      have : ofS s = .error (i, 20) := by unfold ofS; rw [hc]
      unfold OfPost
      rw [this]
      exact ⟨hb, rfl⟩
    have HC2 : Hid (Calls Tryd.prog 38 #[.string sb] w fun e w' => Bel w w' ∧ e = .returned (.tuple #[.slice none 0 0, .int .i64 i, .int .i64 20])) := (HC.out).mono fun e w' h => by
      unfold CutPost at h
      rw [hbl, hc] at h
      exact h
    clear hc HC hbl
    go_enter Tryd.func18, Tryd.ntmps18
    go_wp2_with (first
      | (go_at_call 38; (with_reducible refine (HC2.out).mono ?_); rintro e w2 ⟨hb2, rfl⟩; have HB2 := Lib.hid hb2; clear hb2))
    exact bodyPost_ret (v := .tuple #[.slice none 0 0, .int .i64 i, .int .i64 20]) (by simp [results, Tryd.results18, go_sem]) rfl (HE.out _ HB2.out)
  | ok l =>
    have hto := cut_tok s 0 0 l hc (by omega)
    have HTO := Lib.hid hto
    have HE : Hid (∀ w2 w' e, Bel w w2 → ParsePost w2 (parseS l s.length) e w' → OfPost s w e w') := fun w2 w' e hb hp => by
      have : ofS s = parseS l s.length := by unfold ofS; rw [hc]
      unfold OfPost ParsePost at *
      rw [this]
      refine ⟨hb.trans hp.1, ?_⟩
      have h2 := hp.2
      cases hps : parseS l s.length with
      | error a => rw [hps] at h2; exact h2
      | ok r =>
        rw [hps] at h2
        obtain ⟨v, h3, h4⟩ := h2
        exact ⟨v, h3, own_base h4 hb.size⟩
    have HC2 : Hid (Calls Tryd.prog 38 #[.string sb] w fun e w' => Bel w w' ∧ ∃ v, e = .returned (.tuple #[v, .int .i64 0, .int .i64 0]) ∧ w'.ownsRow w.heap.size 106 4 v l.length (toksC l)) := (HC.out).mono fun e w' h => by
      unfold CutPost at h
      rw [hbl, hc] at h
      exact h
    have HRU : Hid (Rul w ∧ 2 < w.heap.size) := ⟨hr, hg⟩
    clear hc HC hbl hto hr
    obtain ⟨N, hN⟩ : ∃ N, s.length = N := ⟨_, rfl⟩
    rw [hN] at hsz HE hs
    go_enter Tryd.func18, Tryd.ntmps18
    go_wp2_with (first
      | (go_at_call 38; (with_reducible refine (HC2.out).mono ?_); rintro e w2 ⟨hb2, v2, rfl, ho2⟩; have HB2 := Lib.hid hb2; have HPA := Lib.hid (parse_any l v2 N w2 (toks_row ho2) HTO.out.1 (by have := HTO.out.2; omega) (hb2.rul HRU.out.1) (Nat.lt_of_lt_of_le HRU.out.2 hb2.size)); clear hb2 ho2)
      | (go_at_call 39; (with_reducible refine (HPA.out).mono ?_); rintro e w3 hp3; (obtain ⟨v3, a3, c3, rfl⟩ := parse_three hp3); have HP3 := Lib.hid (HE.out _ _ _ HB2.out hp3); clear hp3))
    exact bodyPost_ret (v := .tuple #[v3, .int .i64 a3, .int .i64 c3]) (by simp [results, Tryd.results18, go_sem]) rfl HP3.out
end Go.Proofs.YtefajplbgmikdaaDoor

/-
  The walk of gessokeep.Segs on two rows of the same parts.
-/
namespace Go.Proofs.YtefajplbgmikdaaDoor
open Go.RowKit

theorem arr6_eq (v0 v1 v2 v3 v4 v5 : Int) (w : World) : (Op.equalIn 10000 34 (.agg #[.int .i64 v0, .int .i64 v1, .int .i64 v2, .int .i64 v3, .int .i64 v4, .int .i64 v5]) (.agg #[.int .i64 v0, .int .i64 v1, .int .i64 v2, .int .i64 v3, .int .i64 v4, .int .i64 v5])).run Tryd.prog w = .ok true w := by
  have hi := infoInt64
  cases hq : Tryd.prog.info? 2 with
  | none => rw [hq] at hi; cases hi
  | some i =>
    have hc : Tryd.prog.cellsOf 2 = 1 := by kernel_rfl
    have hu := Tryd.underlying2
    rw [show (10000 : Nat) = 9999 + 1 from rfl, run_equalIn_array w 9999 _ _ Tryd.underlying34 hq, hc]
    have h9 : ∀ (a : Int) (V : World), (Op.equalIn 9999 2 (.int .i64 a) (.int .i64 a)).run Tryd.prog V = .ok true V := fun a V => by
      rw [show (9999 : Nat) = 9998 + 1 from rfl, run_equalIn_int V 9998 2 .i64 .i64 a a hu]; simp
    simp [List.range, List.range.loop, Op.eqItems, part, isAgg, run_underlying hu, h9, Sem.run_bind]

set_option maxHeartbeats 4000000 in
set_option maxRecDepth 100000 in
theorem segs_eq (l : List Sg) (hl : ∀ s ∈ l, s.v.length = 6) (hn : l.length < 4611686018427387904) (v1 v2 : Value) (w : World) (h1 : SegRow w w.heap.size v1 l) (h2 : SegRow w w.heap.size v2 l) :
    Calls Tryd.prog 17 #[v1, v2] w fun e w' => e = .returned (.bool true) ∧ Bel w w' := by
  have H1 := Lib.hid h1
  have H2 := Lib.hid h2
  have HL := Lib.hid hl
  obtain ⟨p1, c1, rfl, hc1, _⟩ := h1
  obtain ⟨p2, c2, rfl, hc2, _⟩ := h2
  clear hl
  have hne : ((l.length : Int) != (l.length : Int)) = false := by simp
  go_enter Tryd.func17, Tryd.ntmps17
  go_wp2
  go_loopg [5] l.length (fun gf i wx => ∃ k : Nat, i = .int .i64 k ∧ k ≤ l.length ∧ l.length ≤ k + gf ∧ Bel w wx)
  case atStart => exact ⟨0, rfl, Nat.zero_le _, by omega, Bel.refl _⟩
  case round =>
    obtain ⟨k, rfl, hkl, hkg, hb⟩ := hrel
    have HB := Lib.hid hb
    clear hb
    by_cases hk : k < l.length
    · obtain ⟨gk', rfl⟩ : ∃ g, gk = g + 1 := ⟨gk - 1, by omega⟩
      obtain ⟨s, hs⟩ : ∃ s, l[k]? = some s := ⟨_, List.getElem?_eq_getElem hk⟩
      have h6 := HL.out s (List.mem_of_getElem? hs)
      obtain ⟨sk, sv, sw⟩ := s
      dsimp only at h6
      obtain ⟨v0, v1, v2, v3, v4, v5, rfl⟩ := six h6
      obtain ⟨b1, o1, cc1, he, _, _, q0, q1, q2, q3, q4, q5, q6, q7⟩ := (H1.out.bel HB.out).at hs
      simp only [Value.slice.injEq] at he
      obtain ⟨rfl, _, rfl⟩ := he
      obtain ⟨b2, o2, cc2, he, _, _, r0, r1, r2, r3, r4, r5, r6, r7⟩ := (H2.out.bel HB.out).at hs
      simp only [Value.slice.injEq] at he
      obtain ⟨rfl, _, rfl⟩ := he
      clear hs h6
      have hk1 : (sk != sk) = false := by simp
      have hw1 : (sw != sw) = false := by simp
      have harr := arr6_eq v0 v1 v2 v3 v4 v5
      go_wp2_with fail
      go_quiet (fail)
      go_wp2
      go_roundg gk'
      case measure => omega
      case rel => exact ⟨k + 1, rfl, by omega, by omega, HB.out.drewN _⟩
    · obtain rfl : k = l.length := by omega
      go_wp2
      go_ret
      exact ⟨rfl, HB.out⟩
end Go.Proofs.YtefajplbgmikdaaDoor

/-
  The walk of the law's wakes.
-/
namespace Go.Proofs.YtefajplbgmikdaaDoor
open Go.RowKit

def L3 : List Sg := [⟨1, [0, 0, 0, 0, 0, 0], 0⟩, ⟨2, [64, 0, 0, 0, 0, 0], 0⟩, ⟨6, [0, 0, 0, 0, 0, 0], 0⟩]
theorem L3_of : ofS [77, 48, 32, 48, 108, 54, 52, 32, 48, 122] = .ok L3 := by rfl
theorem bad_of : ofS [77, 48, 32, 48, 32, 76, 53] = .error (7, 20) := by rfl
theorem far_of : ofS [77, 48, 32, 50, 49, 52, 55, 52, 56, 51, 54, 52, 56] = .error (3, 21) := by rfl
theorem L3_good : goodS L3 = true := by decide
theorem L3_six : ∀ s ∈ L3, s.v.length = 6 := by decide
theorem itoa_0 : Lib.itoa 0 = [48] := by rw [show (0 : Int) = ((0 : Nat) : Int) from rfl, Lib.itoa_nonneg, Lib.decDigits_one (by decide)]; rfl
theorem itoa_64 : Lib.itoa 64 = [54, 52] := by rw [show (64 : Int) = ((64 : Nat) : Int) from rfl, Lib.itoa_nonneg, Lib.decDigits_two (by decide) (by decide)]; rfl
theorem L3_text : textS L3 = [77, 32, 48, 32, 48, 32, 76, 32, 54, 52, 32, 48, 32, 90] := by
  have : wordsS L3 = [[77], [48], [48], [76], [54, 52], [48], [90]] := by
    simp [wordsS, L3, wordsOf, numsOf, letterB, countK, itoa_0, itoa_64]
  unfold textS
  rw [this]
  rfl

theorem of_ok {s : List UInt8} {l : List Sg} (h : ofS s = .ok l) (hs : s.length ≤ 1048576) (w : World) (hr : Rul w) (hg : 2 < w.heap.size) :
    Calls Tryd.prog 18 #[.string ⟨s.toArray⟩] w fun e w' => Bel w w' ∧ ∃ v, e = .returned (.tuple #[v, .int .i64 0, .int .i64 0]) ∧ SRow w' w.heap.size v l := (of_any s hs w hr hg).mono fun e w' hp => by
  unfold OfPost ParsePost at hp
  rw [h] at hp
  exact hp
theorem of_err {s : List UInt8} {a c : Int} (h : ofS s = .error (a, c)) (hs : s.length ≤ 1048576) (w : World) (hr : Rul w) (hg : 2 < w.heap.size) :
    Calls Tryd.prog 18 #[.string ⟨s.toArray⟩] w fun e w' => Bel w w' ∧ e = .returned (.tuple #[.slice none 0 0, .int .i64 a, .int .i64 c]) := (of_any s hs w hr hg).mono fun e w' hp => by
  unfold OfPost ParsePost at hp
  rw [h] at hp
  exact hp
theorem text_ok {l : List Sg} (hg : goodS l = true) (hl : ∀ s ∈ l, s.v.length = 6) (v : Value) (w : World) (h : SegRow w w.heap.size v l) (ht : Tab w) :
    Calls Tryd.prog 13 #[v] w fun e w' => Bel w w' ∧ e = .returned (.tuple #[.string ⟨(textS l).toArray⟩, .int .i64 0]) :=
  (text_any l hl (by have := (good_parts hg).2.1; omega) v w h ht).mono fun e w' hp => ⟨hp.1, by rw [hp.2, hg]; rfl⟩

set_option maxHeartbeats 4000000 in
set_option maxRecDepth 100000 in
theorem wakes_any (w : World) (hr : Rul w) (hg : 2 < w.heap.size) (ht : Tab w) : Calls Tryd.prog 12 #[] w fun e w' => e = .returned (.bool true) ∧ Bel w w' := by
  have H1 : Hid (∀ V, Bel w V → _) := fun V hb => of_ok L3_of (by decide) V (hb.rul hr) (Nat.lt_of_lt_of_le hg hb.size)
  have H2 : Hid (∀ V, Bel w V → _) := fun V hb => of_err bad_of (by decide) V (hb.rul hr) (Nat.lt_of_lt_of_le hg hb.size)
  have H3 : Hid (∀ V, Bel w V → _) := fun V hb => of_err far_of (by decide) V (hb.rul hr) (Nat.lt_of_lt_of_le hg hb.size)
  have H4 : Hid (∀ V v, Bel w V → SegRow V V.heap.size v L3 → Calls Tryd.prog 13 #[v] V fun e w' => Bel V w' ∧ e = .returned (.tuple #[.string ⟨#[77, 32, 48, 32, 48, 32, 76, 32, 54, 52, 32, 48, 32, 90]⟩, .int .i64 0])) := fun V v hb h => by
    have := text_ok L3_good L3_six v V h (hb.tab ht)
    rw [L3_text] at this
    exact this
  have H5 : Hid (∀ V v, SegRow V V.heap.size v L3 → Calls Tryd.prog 15 #[v] V fun e w' => e = .returned (.bool true) ∧ Bel V w') := fun V v h => by
    have := goodAll_any L3 L3_six (by decide) v V h
    rw [L3_good] at this
    exact this
  clear hr hg ht
  go_enter Tryd.func12, Tryd.ntmps12
  go_upto_region 2 with (first
    | (go_at_call 18; (with_reducible refine (H1.out _ (Bel.refl _)).mono ?_); rintro e w1 ⟨hb1, va, rfl, hs1⟩; have HB1 := Lib.hid hb1; have HS1 := Lib.hid (SRow.read hs1 L3_six); (obtain ⟨ap, ac, rfl, _⟩ := hs1.form); clear hb1 hs1))
  go_upto_region 3 with (first
    | (go_at_call 18; (with_reducible refine (H2.out _ HB1.out).mono ?_); rintro e w2 ⟨hb2, rfl⟩; have HB2 := Lib.hid (HB1.out.trans hb2); have HS2 := Lib.hid (HS1.out.bel hb2); clear hb2))
  go_upto_region 4 with (first
    | (go_at_call 18; (with_reducible refine (H3.out _ HB2.out).mono ?_); rintro e w3 ⟨hb3, rfl⟩; have HB3 := Lib.hid (HB2.out.trans hb3); have HS3 := Lib.hid (HS2.out.bel hb3); clear hb3))
  go_upto_region 5 with (first
    | (go_at_call 13; (with_reducible refine (H4.out _ _ HB3.out HS3.out).mono ?_); rintro e w4 ⟨hb4, rfl⟩; have HB4 := Lib.hid (HB3.out.trans hb4); have HS4 := Lib.hid (HS3.out.bel hb4); clear hb4))
  obtain ⟨bb, oo, cc, he, _, _, q0, q1, _⟩ := HS4.out.at (k := 1) (show L3[1]? = some ⟨2, [64, 0, 0, 0, 0, 0], 0⟩ from rfl)
  simp only [Value.slice.injEq] at he
  obtain ⟨rfl, _, rfl⟩ := he
  rw [show L3.length = 3 from rfl] at *
  go_wp2_with (first
    | (go_at_call 15; (with_reducible refine (H5.out _ _ HS4.out).mono ?_); rintro e w5 ⟨rfl, hb5⟩; have HB5 := Lib.hid (HB4.out.trans hb5); clear hb5))
  go_ret
  exact ⟨rfl, HB5.out⟩
end Go.Proofs.YtefajplbgmikdaaDoor

/-
  The walk of the law PathBack.
-/
namespace Go.Proofs.YtefajplbgmikdaaDoor
open Go.RowKit

/-- What the laws stand on. -/
structure Base (w : World) : Prop where
  rul : Rul w
  lt : 2 < w.heap.size
  tab : Tab w
theorem Base.on {w w' : World} (h : Base w) (hb : Bel w w') : Base w' := ⟨hb.rul h.rul, Nat.lt_of_lt_of_le h.lt hb.size, hb.tab h.tab⟩
theorem wakes_base {w : World} (h : Base w) : Calls Tryd.prog 12 #[] w fun e w' => e = .returned (.bool true) ∧ Bel w w' := wakes_any w h.rul h.lt h.tab

theorem segs_code : ∀ (ps : List Part) (i : Nat) (p : Pen) (a c : Int), segsS ps i p = .error (a, c) → c ≠ 0
  | [], i, p, a, c, h => by simp [segsS] at h
  | x :: ps, i, p, a, c, h => by
    rw [segsS] at h
    split at h
    · simp only [Except.error.injEq, Prod.mk.injEq] at h; omega
    · split at h
      · simp only [Except.error.injEq, Prod.mk.injEq] at h; omega
      · rename_i s p' he
        split at h
        · cases h
        · rename_i e he2
          simp only [Except.error.injEq] at h
          subst h
          exact segs_code ps (i + 1) p' a c he2
theorem of_code {s : List UInt8} {a c : Int} (h : ofS s = .error (a, c)) : c ≠ 0 := by
  unfold ofS at h
  split at h
  · simp only [Except.error.injEq, Prod.mk.injEq] at h; omega
  · unfold parseS at h
    split at h
    · simp only [Except.error.injEq, Prod.mk.injEq] at h; omega
    · exact segs_code _ _ _ _ _ h
/-- Text's answer, its parts named. -/
theorem text_named (l : List Sg) (hl : ∀ s ∈ l, s.v.length = 6) (hn : l.length < 4611686018427387904) : ∃ (tb : ByteArray) (E : Int), (goodS l = true → tb = ⟨(textS l).toArray⟩ ∧ E = 0) ∧ (goodS l = false → tb = ⟨#[]⟩ ∧ E = 11) ∧
    ∀ v w, SegRow w w.heap.size v l → Tab w → Calls Tryd.prog 13 #[v] w fun e w' => Bel w w' ∧ e = .returned (.tuple #[.string tb, .int .i64 E]) := by
  cases hg : goodS l with
  | true => exact ⟨⟨(textS l).toArray⟩, 0, fun _ => ⟨rfl, rfl⟩, fun h => (by cases h), fun v w h ht => (text_any l hl hn v w h ht).mono fun e w' hp => ⟨hp.1, by rw [hp.2, hg]; rfl⟩⟩
  | false => exact ⟨⟨#[]⟩, 11, fun h => (by cases h), fun _ => ⟨rfl, rfl⟩, fun v w h ht => (text_any l hl hn v w h ht).mono fun e w' hp => ⟨hp.1, by rw [hp.2, hg]; rfl⟩⟩

set_option maxHeartbeats 4000000 in
set_option maxRecDepth 100000 in
theorem pathBack_any (l : List Sg) (hl : ∀ s ∈ l, s.v.length = 6) (v : Value) (s : List UInt8) (w : World) (h : SegRow w w.heap.size v l) (hb : Base w) :
    Calls Tryd.prog 4 #[v, .string ⟨s.toArray⟩] w fun e w' => e = .returned (.bool true) ∧ Bel w w' := by
  have H := Lib.hid h
  have HL := Lib.hid hl
  have HB := Lib.hid hb
  have HWK : Hid (∀ V, Bel w V → _) := fun V h => wakes_base (hb.on h)
  obtain ⟨p, c, rfl, hc, _⟩ := h
  have hsz : (⟨s.toArray⟩ : ByteArray).size = s.length := rfl
  obtain ⟨sb, hsb⟩ : ∃ sb : ByteArray, (⟨s.toArray⟩ : ByteArray) = sb := ⟨_, rfl⟩
  have HSB := Lib.hid hsb
  rw [hsb] at hsz ⊢
  clear hl hb hsb
  go_enter Tryd.func4, Tryd.ntmps4
  by_cases h300 : 300 < l.length
  · have h1 : decide ((300 : Int) < (l.length : Int)) = true := decide_eq_true (by omega)
    go_wp2_with (first
      | (go_at_call 12; (with_reducible refine (HWK.out _ (Bel.refl _)).mono ?_); rintro e w2 ⟨rfl, hb2⟩; have HB2 := Lib.hid hb2; clear hb2))
    go_ret
    exact ⟨rfl, HB2.out⟩
  have h1 : decide ((300 : Int) < (l.length : Int)) = false := decide_eq_false (by omega)
  by_cases h2000 : 2000 < s.length
  · have h2 : decide ((2000 : Int) < (s.length : Int)) = true := decide_eq_true (by omega)
    go_wp2_with (first
      | (go_at_call 12; (with_reducible refine (HWK.out _ (Bel.refl _)).mono ?_); rintro e w2 ⟨rfl, hb2⟩; have HB2 := Lib.hid hb2; clear hb2))
    go_ret
    exact ⟨rfl, HB2.out⟩
  have h2 : decide ((2000 : Int) < (s.length : Int)) = false := decide_eq_false (by omega)
  obtain ⟨tb, E, hT1, hT2, hT3⟩ := text_named l HL.out (by omega)
  have HTX := Lib.hid (hT3 _ w H.out HB.out.tab)
  have HT1 := Lib.hid hT1
  have HT2 := Lib.hid hT2
  clear hT1 hT2 hT3
  obtain ⟨N, hN⟩ : ∃ N, s.length = N := ⟨_, rfl⟩
  rw [hN] at hsz h2 h2000
  go_upto_region 4 with (first
    | (go_at_call 13; (with_reducible refine (HTX.out).mono ?_); rintro e w2 ⟨hb2, rfl⟩; have HB2 := Lib.hid hb2; clear hb2))
  go_upto_if 33 with fail
  go_cut [] from 32 to 47 (fun wx => Bel w wx)
  case first =>
    cases hg : goodS l with
    | false =>
      have hE := (HT2.out hg).2
      have hE' : (E == 0) = false := by rw [hE]; rfl
      clear hg hE
      go_wp2
      go_meet
      exact HB2.out
    | true =>
      have hE := (HT1.out hg).2
      have hE' : (E == 0) = true := by rw [hE]; rfl
      have HOF := Lib.hid (of_ok (of_text hg HL.out) (by have := text_len hg; omega) w2 (HB.out.on HB2.out).rul (HB.out.on HB2.out).lt)
      rw [← (HT1.out hg).1] at HOF
      clear hg hE
      go_upto_region 6 with (first
        | (go_at_call 18; (with_reducible refine (HOF.out).mono ?_); rintro e w3 ⟨hb3, va, rfl, hs3⟩; have HB3 := Lib.hid (HB2.out.trans hb3); have HS3 := Lib.hid (SRow.read hs3 HL.out); (obtain ⟨ap, ac, rfl, _⟩ := hs3.form); clear hb3 hs3))
      have HSE := Lib.hid (segs_eq l HL.out (by omega) _ _ w3 HS3.out (H.out.bel HB3.out))
      go_wp2_with (first
        | (go_at_call 17; (with_reducible refine (HSE.out).mono ?_); rintro e w4 ⟨rfl, hb4⟩; have HB4 := Lib.hid (HB3.out.trans hb4); clear hb4))
      go_meet
      exact HB4.out
  case rest =>
  have HB2' := Lib.hid hcut
  clear hcut HB2 HTX HT1 HT2 H
  have HBB := Lib.hid (HB.out.on HB2'.out)
  cases ho : ofS s with
  | error ac =>
    obtain ⟨a, c'⟩ := ac
    have HOF := Lib.hid (of_err ho (by omega) wc HBB.out.rul HBB.out.lt)
    rw [HSB.out] at HOF
    have hc0 := of_code ho
    have hc0' : (c' != 0) = true := by simpa using hc0
    clear ho hc0
    go_wp2_with (first
      | (go_at_call 18; (with_reducible refine (HOF.out).mono ?_); rintro e w3 ⟨hb3, rfl⟩; have HB3 := Lib.hid (HB2'.out.trans hb3); clear hb3)
      | (go_at_call 12; (with_reducible refine (HWK.out _ HB3.out).mono ?_); rintro e w4 ⟨rfl, hb4⟩; have HB4 := Lib.hid (HB3.out.trans hb4); clear hb4))
    go_ret
    exact ⟨rfl, HB4.out⟩
  | ok m =>
    obtain ⟨hg, hok, hot⟩ := of_back ho
    have hm6 : ∀ s ∈ m, s.v.length = 6 := fun s hs => (hok s hs).1
    have hml := (good_parts hg).2.1
    have HOF := Lib.hid (of_ok ho (by omega) wc HBB.out.rul HBB.out.lt)
    rw [HSB.out] at HOF
    have HM6 := Lib.hid hm6
    have HTX : Hid (∀ V v, Bel w V → SegRow V V.heap.size v m → _) := fun V v hb h => text_ok hg hm6 v V h (HB.out.on hb).tab
    have HOF2 : Hid (∀ V, Bel w V → _) := fun V hb => of_ok hot (by have := text_len hg; omega) V (HB.out.on hb).rul (HB.out.on hb).lt
    have HGD : Hid (∀ V v, SegRow V V.heap.size v m → Calls Tryd.prog 15 #[v] V fun e w' => e = .returned (.bool true) ∧ Bel V w') := fun V v h => by
      have := goodAll_any m hm6 (by omega) v V h
      rw [hg] at this
      exact this
    have HSE : Hid (∀ V v1 v2, SegRow V V.heap.size v1 m → SegRow V V.heap.size v2 m → _) := fun V v1 v2 h1 h2 => segs_eq m hm6 (by omega) v1 v2 V h1 h2
    clear ho hg hok hot hm6
    go_upto_region 11 with (first
      | (go_at_call 18; (with_reducible refine (HOF.out).mono ?_); rintro e w3 ⟨hb3, va, rfl, hs3⟩; have HB3 := Lib.hid (HB2'.out.trans hb3); have HS3 := Lib.hid (SRow.read hs3 HM6.out); (obtain ⟨ap, ac, rfl, _⟩ := hs3.form); clear hb3 hs3))
    go_upto_region 12 with (first
      | (go_at_call 13; (with_reducible refine (HTX.out _ _ HB3.out HS3.out).mono ?_); rintro e w4 ⟨hb4, rfl⟩; have HB4 := Lib.hid (HB3.out.trans hb4); have HS4 := Lib.hid (HS3.out.bel hb4); clear hb4))
    go_upto_region 13 with (first
      | (go_at_call 18; (with_reducible refine (HOF2.out _ HB4.out).mono ?_); rintro e w5 ⟨hb5, vb, rfl, hs5⟩; have HB5 := Lib.hid (HB4.out.trans hb5); have HS5 := Lib.hid (HS4.out.bel hb5); have HR5 := Lib.hid (SRow.read hs5 HM6.out); (obtain ⟨bp, bc, rfl, _⟩ := hs5.form); clear hb5 hs5))
    go_wp2_with (first
      | (go_at_call 15; (with_reducible refine (HGD.out _ _ HS5.out).mono ?_); rintro e w6 ⟨rfl, hb6⟩; have HB6 := Lib.hid (HB5.out.trans hb6); have HS6 := Lib.hid (HS5.out.bel hb6); have HR6 := Lib.hid (HR5.out.bel hb6); clear hb6)
      | (go_at_call 17; (with_reducible refine (HSE.out _ _ _ HR6.out HS6.out).mono ?_); rintro e w7 ⟨rfl, hb7⟩; have HB7 := Lib.hid (HB6.out.trans hb7); clear hb7)
      | (go_at_call 12; (with_reducible refine (HWK.out _ HB7.out).mono ?_); rintro e w8 ⟨rfl, hb8⟩; have HB8 := Lib.hid (HB7.out.trans hb8); clear hb8))
    go_ret
    exact ⟨rfl, HB8.out⟩
end Go.Proofs.YtefajplbgmikdaaDoor

/-
  What is parsed is good, and how long its script is. No program in this text.
-/
namespace Go.Proofs.YtefajplbgmikdaaDoor
open Go.Lib

theorem read_wt {en : Int} : ∀ {f : Nat} {l : List Tok} {ps ps' : List Part}, readS en f l ps = .ok ps' → ps'.length ≤ ps.length + wt l
  | f, [], ps, ps', h => by
    have : readS en f [] ps = .ok ps := by cases f <;> rfl
    rw [this, Except.ok.injEq] at h
    subst h
    omega
  | 0, _ :: _, ps, ps', h => by
    rw [readS, Except.ok.injEq] at h
    subst h
    omega
  | f + 1, t :: l, ps, ps', h => by
    rw [readS] at h
    split at h
    · cases h
    · split at h
      · cases h
      · split at h
        · rename_i l2 ps2 he
          have h1 := word_wt he
          have h2 := read_wt h
          rw [wt]
          omega
        · cases h
theorem parse_len {l : List Tok} {en : Int} {p : List Sg} (h : parseS l en = .ok p) : p.length ≤ wt l := by
  unfold parseS at h
  cases hr : readAll en l with
  | error a => rw [hr] at h; cases h
  | ok ps =>
    rw [hr] at h
    have hpo : ∀ x ∈ ps, PartOk (fun _ => True) x := by
      unfold readAll at hr
      split at hr
      · cases hr
      · exact read_ok hr (fun _ _ => trivial) (by simp)
    have h1 := congrArg List.length (segs_ok h pen0_ok hpo).2.1
    have h2 : ps.length ≤ wt l := by
      unfold readAll at hr
      split at hr
      · cases hr
      · have := read_wt hr
        simpa using this
    simp at h1
    omega
def Pl (l : List Tok) : Prop := ∀ t ∈ l, 0 ≤ t.place
theorem take_pl {en : Int} (hen : 0 ≤ en) : ∀ {n : Nat} {l : List Tok} {a : Int}, takeNums en n l = .error a → Pl l → 0 ≤ a
  | 0, l, a, h, _ => by simp [takeNums] at h
  | n + 1, [], a, h, _ => by
    simp only [takeNums, Except.error.injEq] at h
    omega
  | n + 1, t :: l, a, h, hp => by
    rw [takeNums] at h
    split at h
    · split at h
      · cases h
      · rename_i e he
        rw [Except.error.injEq] at h
        subst h
        exact take_pl hen he (fun x hx => hp x (by simp [hx]))
    · rw [Except.error.injEq] at h
      subst h
      exact hp t (by simp)
theorem once_pl {en : Int} (hen : 0 ≤ en) {x : Rl} {sm : Bool} {pl : Int} {l : List Tok} {ps : List Part} {a : Int} (h : onceS en x sm pl l ps = .error a) (hp : Pl l) : 0 ≤ a := by
  unfold onceS at h
  split at h
  · cases h
  · rename_i e he
    rw [Except.error.injEq] at h
    subst h
    exact take_pl hen he hp
theorem again_pl {en : Int} (hen : 0 ≤ en) {x : Rl} {sm : Bool} : ∀ {f : Nat} {l : List Tok} {ps : List Part} {a : Int}, againS en x sm f l ps = .error a → Pl l → 0 ≤ a
  | 0, l, ps, a, h, _ => by simp [againS] at h
  | f + 1, l, ps, a, h, hp => by
    rw [againS] at h
    split at h
    · split at h
      · rename_i l2 ps2 he
        exact again_pl hen h (once_toks (p := fun t => 0 ≤ t.place) he hp)
      · rename_i e he
        rw [Except.error.injEq] at h
        subst h
        exact once_pl hen he hp
    · cases h
theorem letter_pl {en : Int} (hen : 0 ≤ en) {c : Nat} {pl : Int} {more : Bool} {l : List Tok} {ps : List Part} {a : Int} (h : letterS en c pl more l ps = .error a) (hpl : 0 ≤ pl) (hp : Pl l) : 0 ≤ a := by
  unfold letterS at h
  split at h
  · rw [Except.error.injEq] at h; omega
  · split at h
    · rw [Except.error.injEq] at h; omega
    · split at h
      · rw [Except.error.injEq] at h; omega
      · split at h
        · rename_i l2 ps2 he
          exact again_pl hen h (once_toks (p := fun t => 0 ≤ t.place) he hp)
        · rename_i e he
          rw [Except.error.injEq] at h
          subst h
          exact once_pl hen he hp
theorem word_pl {en : Int} (hen : 0 ≤ en) : ∀ {s : List UInt8} {pl : Int} {l : List Tok} {ps : List Part} {a : Int}, wordS en s pl l ps = .error a → 0 ≤ pl → Pl l → 0 ≤ a
  | [], pl, l, ps, a, h, _, _ => by simp [wordS] at h
  | c :: cs, pl, l, ps, a, h, hpl, hp => by
    rw [wordS] at h
    split at h
    · rename_i l2 ps2 he
      exact word_pl hen h (by omega) (letter_toks (p := fun t => 0 ≤ t.place) he hp)
    · rename_i e he
      rw [Except.error.injEq] at h
      subst h
      exact letter_pl hen he hpl hp
theorem word_toks {en : Int} {p : Tok → Prop} : ∀ {s : List UInt8} {pl : Int} {l l' : List Tok} {ps ps' : List Part}, wordS en s pl l ps = .ok (l', ps') → (∀ t ∈ l, p t) → ∀ t ∈ l', p t
  | [], pl, l, l', ps, ps', h, hp => by
    simp only [wordS, Except.ok.injEq, Prod.mk.injEq] at h
    obtain ⟨rfl, rfl⟩ := h
    exact hp
  | c :: cs, pl, l, l', ps, ps', h, hp => by
    rw [wordS] at h
    split at h
    · rename_i l2 ps2 he
      exact word_toks h (letter_toks he hp)
    · cases h
theorem read_pl {en : Int} (hen : 0 ≤ en) : ∀ {f : Nat} {l : List Tok} {ps : List Part} {a : Int}, readS en f l ps = .error a → Pl l → 0 ≤ a
  | f, [], ps, a, h, _ => by
    have : readS en f [] ps = .ok ps := by cases f <;> rfl
    rw [this] at h
    cases h
  | 0, _ :: _, ps, a, h, _ => by
    rw [readS] at h
    cases h
  | f + 1, t :: l, ps, a, h, hp => by
    rw [readS] at h
    have ht := hp t (by simp)
    split at h
    · rw [Except.error.injEq] at h; omega
    · split at h
      · rw [Except.error.injEq] at h; omega
      · split at h
        · rename_i l2 ps2 he
          exact read_pl hen h (word_toks (p := fun t => 0 ≤ t.place) he (fun x hx => hp x (by simp [hx])))
        · rename_i e he
          rw [Except.error.injEq] at h
          subst h
          exact word_pl hen he ht (fun x hx => hp x (by simp [hx]))
theorem cm_segs_code : ∀ {ps : List Part} {i : Nat} {p : Pen} {a c : Int}, segsS ps i p = .error (a, c) → c = 21 ∨ c = 22
  | [], i, p, a, c, h => by simp [segsS] at h
  | x :: ps, i, p, a, c, h => by
    rw [segsS] at h
    split at h
    · simp only [Except.error.injEq, Prod.mk.injEq] at h
      omega
    · split at h
      · simp only [Except.error.injEq, Prod.mk.injEq] at h
        omega
      · split at h
        · cases h
        · rename_i e he
          rw [Except.error.injEq] at h
          subst h
          exact cm_segs_code he
theorem parse_code {l : List Tok} {en : Int} {a c : Int} (h : parseS l en = .error (a, c)) (hen : 0 ≤ en) (hp : Pl l) : (c = 20 ∧ 0 ≤ a) ∨ c = 21 ∨ c = 22 := by
  unfold parseS at h
  cases hr : readAll en l with
  | error b =>
    rw [hr] at h
    simp only [Except.error.injEq, Prod.mk.injEq] at h
    left
    refine ⟨by omega, ?_⟩
    unfold readAll at hr
    split at hr
    · rw [Except.error.injEq] at hr; omega
    · have := read_pl hen hr hp
      omega
  | ok ps =>
    rw [hr] at h
    exact .inr (cm_segs_code h)

theorem kindGo_le (s : List UInt8) : ∀ (l : List (List UInt8)) (k : Nat), kindGo s l k = 0 ∨ kindGo s l k < k + l.length
  | [], k => .inl rfl
  | x :: r, k => by
    rw [kindGo]
    split
    · right; simp
    · rcases kindGo_le s r (k + 1) with h | h
      · exact .inl h
      · right; simp; omega
theorem nameS_le (t : Tok) : nameS t ≤ 15 := by
  unfold nameS
  split
  · have : kindOf t.s = 0 ∨ kindOf t.s < 0 + namesL.length := kindGo_le t.s namesL 0
    have e : namesL.length = 16 := rfl
    omega
  · omega
/-- What a line that was read is. -/
def LnOk (first : Bool) (y : Ln) : Prop := (1 ≤ y.kind ∧ y.kind ≤ 15 ∧ decide (y.kind = 1) = first) ∧ badS y.kind y.l y.en < 0 ∧ 0 ≤ y.en ∧ Pl y.l
theorem read_facts {first : Bool} {ts : List Tok} {en : Int} {y : Ln} (h : readC first (ts, en) = .ok y) (hen : 0 ≤ en) (hp : Pl ts) : LnOk first y ∧ wt y.l + 1 ≤ wt ts := by
  cases ts with
  | nil => simp [readC] at h
  | cons t r =>
    rw [readC] at h
    split at h
    · cases h
    rename_i hn
    split at h
    · cases h
    rename_i hb
    rw [Except.ok.injEq] at h
    subst h
    have h15 := nameS_le t
    refine ⟨⟨⟨by dsimp only; omega, h15, ?_⟩, by dsimp only; omega, hen, fun x hx => hp x (by simp [hx])⟩, by simp only [wt]; omega⟩
    by_cases e : decide (nameS t = 1) = first
    · exact e
    · exact absurd (.inr e) hn
theorem only_facts {kd : Int} {count : Nat} {en : Int} (hen : 0 ≤ en) : ∀ {r : List Tok} {i : Nat}, onlyS kd count en r i < 0 → Pl r → i ≤ count → (∀ t ∈ r, t.kind = kd) ∧ i + r.length = count
  | [], i, h, _, hi => by
    rw [onlyS] at h
    split at h
    · omega
    · exact ⟨by simp, by simp; omega⟩
  | t :: r, i, h, hp, hi => by
    rw [onlyS] at h
    have ht := hp t (by simp)
    split at h
    · omega
    · rename_i hc
      have h1 : t.kind = kd := by
        by_cases e : t.kind = kd
        · exact e
        · exact absurd (.inl e) hc
      have := only_facts hen h (fun x hx => hp x (by simp [hx])) (by omega)
      refine ⟨fun x hx => ?_, by simp; omega⟩
      rcases List.mem_cons.1 hx with rfl | hx
      · exact h1
      · exact this.1 x hx
theorem nums_facts : ∀ {ss : List (Int × Int)} {ts : List Tok} {n : List Int}, numsC ss ts = .ok n → ss.length = ts.length → n = ts.map Tok.n ∧ ((ss.zip n).all fun p => decide (p.1.1 ≤ p.2) && decide (p.2 ≤ p.1.2)) = true
  | [], [], n, h, _ => by
    simp only [numsC, Except.ok.injEq] at h
    subst h
    exact ⟨rfl, rfl⟩
  | [], _ :: _, _, _, h => by simp at h
  | _ :: _, [], _, _, h => by simp at h
  | s :: ss, t :: ts, n, h, hl => by
    rw [numsC] at h
    split at h
    · cases h
    · rename_i hc
      split at h
      · rename_i l he
        rw [Except.ok.injEq] at h
        subst h
        have := nums_facts he (by simpa using hl)
        refine ⟨by rw [this.1]; rfl, ?_⟩
        rw [List.zip_cons_cons, List.all_cons, this.2]
        simp
        omega
      · cases h
theorem idx_facts (s : List UInt8) : ∀ (l : List (List UInt8)) (i : Nat), s ∈ l → (i : Int) ≤ idxW s l i ∧ idxW s l i < i + l.length
  | [], _, h => by simp at h
  | x :: r, i, h => by
    rw [idxW]
    split
    · simp; omega
    · rename_i hx
      have := idx_facts s r (i + 1) ((List.mem_cons.1 h).resolve_left hx)
      simp at this ⊢
      omega
/-- The command of a line that was read is good. -/
theorem cmd_good {first : Bool} {y : Ln} {c : Cm} (hy : LnOk first y) (h : cmdC y = .ok c) : goodK first c = true ∧ (∀ s ∈ c.path, SgOk s) ∧ c.n.length + c.path.length ≤ wt y.l := by
  obtain ⟨⟨h1, h2, hf⟩, hb, hen, hp⟩ := hy
  have hfirst : ∀ k : Int, k = y.kind → ¬ (k < 1 ∨ 15 < k ∨ decide (k = 1) ≠ first) := by
    rintro k rfl e
    have : decide ((y.kind : Int) = 1) = decide (y.kind = 1) := by
      by_cases e : y.kind = 1
      · simp [e]
      · rw [decide_eq_false e, decide_eq_false (by omega)]
    rw [this] at e
    rcases e with e | e | e
    · omega
    · omega
    · exact e hf
  have hwt := wt_ge y.l
  unfold cmdC at h
  by_cases hpk : pathK y.kind = true
  · rw [if_pos hpk] at h
    split at h
    · cases h
    · rename_i p hps
      rw [Except.ok.injEq] at h
      subst h
      have hg := parse_good hps
      have hl := parse_len hps
      refine ⟨?_, hg.2, by simpa using hl⟩
      unfold goodK
      dsimp only
      rw [if_neg (hfirst _ rfl), Int.toNat_natCast, if_pos hpk, hg.1]
      rfl
  · have hpk' : pathK y.kind = false := by simpa using hpk
    rw [if_neg hpk] at h
    unfold badS at hb
    rw [if_neg hpk] at hb
    by_cases hw : wordsK y.kind = []
    · rw [if_neg (by simp [hw])] at h
      split at h
      · cases h
      rename_i hdash
      split at h
      · cases h
      rename_i n hn
      have hsound : soundS y.kind n = true := by
        by_cases e : soundS y.kind n = true
        · exact e
        · rw [if_neg e] at h; cases h
      rw [if_pos hsound] at h
      rw [Except.ok.injEq] at h
      subst h
      have hlen : (spansK y.kind y.l.length).length = y.l.length ∧ (dashK y.kind = true → ¬ (0 < y.l.length ∧ (y.l.length < 3 ∨ y.l.length % 2 = 0))) ∧ (dashK y.kind = false → y.l.length = countC y.kind) := by
        by_cases hd : dashK y.kind = true
        · rw [if_pos hd] at hb
          refine ⟨(dash_words hd).2.2 _, fun _ e => ?_, fun e => absurd e (by simp [hd])⟩
          split at hb
          · omega
          · rename_i hh
            exact hh ⟨hb, e⟩
        · have hd' : dashK y.kind = false := by simpa using hd
          rw [if_neg hd, if_neg (by simp [hw])] at hb
          have := (only_facts hen hb hp (Nat.zero_le _)).2
          exact ⟨by rw [spans_len _ _ hw hpk' hd']; omega, fun e => absurd e (by simp [hd']), fun _ => by omega⟩
      obtain ⟨e1, e2⟩ := nums_facts hn hlen.1
      have e3 : n.length = y.l.length := by rw [e1]; simp
      refine ⟨?_, by simp, by simp; omega⟩
      unfold goodK
      dsimp only
      rw [if_neg (hfirst _ rfl), Int.toNat_natCast, if_neg hpk, if_neg (by simp), if_neg, if_neg, e3, e2, hsound]
      · rfl
      · rintro ⟨hd, e⟩
        rw [if_pos hw] at e
        exact e (e3.trans (hlen.2.2 hd))
      · rintro ⟨hd, e4, e5⟩
        rw [e3] at e4 e5
        rcases e5 with e5 | e5 | e5
        · exact hlen.2.1 hd ⟨e4, .inl e5⟩
        · exact hlen.2.1 hd ⟨e4, .inr e5⟩
        · exact hdash ⟨hd, e5⟩
    · rw [if_pos hw] at h
      have hd' : dashK y.kind = false := by
        by_cases hd : dashK y.kind = true
        · exact absurd (dash_words hd).1 hw
        · simpa using hd
      rw [if_neg (by simp [hd']), if_pos hw] at hb
      cases hyl : y.l with
      | nil =>
        rw [hyl] at hb
        simp [onlyS] at hb
        omega
      | cons t r =>
        rw [hyl] at hb h hp
        dsimp only at hb h
        have ht := hp t (by simp)
        have hm : t.s ∈ wordsK y.kind := by
          by_cases e : t.s ∈ wordsK y.kind
          · exact e
          · rw [if_neg e] at hb; omega
        rw [if_pos hm] at hb
        have hi := idx_facts t.s (wordsK y.kind) 0 hm
        rw [Except.ok.injEq] at h
        subst h
        refine ⟨?_, by simp, by simp only [wt, List.length_singleton, List.length_nil]; omega⟩
        have hk3 : y.kind = 5 ∨ y.kind = 9 ∨ y.kind = 10 := by
          unfold wordsK at hw
          by_cases e5 : y.kind = 5
          · exact .inl e5
          · by_cases e9 : y.kind = 9
            · exact .inr (.inl e9)
            · by_cases e10 : y.kind = 10
              · exact .inr (.inr e10)
              · rw [if_neg e5, if_neg e9, if_neg e10] at hw
                exact absurd rfl hw
        unfold goodK
        dsimp only
        rw [if_neg (hfirst _ rfl), Int.toNat_natCast, if_neg hpk, if_neg (by simp), if_neg (by simp [hd']), if_neg (by simp [hd', hw])]
        rcases hk3 with e | e | e <;> (rw [e] at hi ⊢; simp [spansK, soundS, wordsK] at hi ⊢; omega)
theorem cmd_code {first : Bool} {y : Ln} {a c : Int} (hy : LnOk first y) (h : cmdC y = .error (a, c)) : c = 21 ∨ c = 22 := by
  obtain ⟨_, hb, hen, hp⟩ := hy
  unfold cmdC at h
  split at h
  · rename_i hpk
    split at h
    · rename_i e he
      rw [Except.error.injEq] at h
      subst h
      rcases parse_code he hen hp with h20 | h2
      · exfalso
        unfold badS at hb
        rw [if_pos hpk, he] at hb
        simp only [h20.1, if_true] at hb
        omega
      · exact h2
    · cases h
  · split at h
    · split at h <;> cases h
    · split at h
      · simp only [Except.error.injEq, Prod.mk.injEq] at h
        omega
      · split at h
        · simp only [Except.error.injEq, Prod.mk.injEq] at h
          omega
        · split at h
          · cases h
          · simp only [Except.error.injEq, Prod.mk.injEq] at h
            omega
def LnL : Bool → List Ln → Prop
  | _, [] => True
  | first, y :: r => LnOk first y ∧ LnL false r
def wts (L : List (List Tok × Int)) : Nat := (L.map fun x => wt x.1).sum
def wty (L : List Ln) : Nat := (L.map fun x => wt x.l + 1).sum
theorem reads_facts : ∀ {L : List (List Tok × Int)} {first : Bool} {ys : List Ln}, readsC first L = .ok ys → (∀ x ∈ L, 0 ≤ x.2 ∧ Pl x.1) → LnL first ys ∧ wty ys ≤ wts L
  | [], first, ys, h, _ => by
    simp only [readsC, Except.ok.injEq] at h
    subst h
    exact ⟨trivial, Nat.le_refl _⟩
  | (ts, en) :: L, first, ys, h, hp => by
    rw [readsC] at h
    split at h
    · cases h
    · rename_i y hy
      split at h
      · rename_i l hl
        rw [Except.ok.injEq] at h
        subst h
        have h1 := read_facts hy (hp (ts, en) (by simp)).1 (hp (ts, en) (by simp)).2
        have h2 := reads_facts hl (fun x hx => hp x (by simp [hx]))
        refine ⟨⟨h1.1, h2.1⟩, ?_⟩
        have h3 := h2.2
        unfold wty wts at h3 ⊢
        simp only [List.map_cons, List.sum_cons]
        omega
      · cases h
theorem cmds_facts : ∀ {ys : List Ln} {first : Bool} {i : Nat} {a : List Cm} {at_ e : Int}, cmdsC ys i = (a, at_, e) → LnL first ys → goodL first a = true ∧ (∀ c ∈ a, ∀ s ∈ c.path, SgOk s) ∧ (textC a).length ≤ 86 * wty ys ∧ (a ≠ [] → i + a.length ≤ 4096) ∧ ((e = 0 ∧ a.length = ys.length) ∨ e = 21 ∨ e = 22)
  | [], first, i, a, at_, e, h, _ => by
    simp only [cmdsC, Prod.mk.injEq] at h
    obtain ⟨rfl, rfl, rfl⟩ := h
    exact ⟨rfl, by simp, by simp [textC], by simp, .inl ⟨rfl, rfl⟩⟩
  | y :: ys, first, i, a, at_, e, h, hy => by
    rw [cmdsC] at h
    split at h
    · simp only [Prod.mk.injEq] at h
      obtain ⟨rfl, rfl, rfl⟩ := h
      exact ⟨rfl, by simp, by simp [textC], by simp, .inr (.inr rfl)⟩
    rename_i hi
    split at h
    · rename_i a2 c2 he
      simp only [Prod.mk.injEq] at h
      obtain ⟨rfl, rfl, rfl⟩ := h
      exact ⟨rfl, by simp, by simp [textC], by simp, .inr (cmd_code hy.1 he)⟩
    · rename_i c hc
      obtain ⟨l, b, d, hl⟩ : ∃ l b d, cmdsC ys (i + 1) = (l, b, d) := ⟨_, _, _, rfl⟩
      rw [hl] at h
      simp only [Prod.mk.injEq] at h
      obtain ⟨rfl, rfl, rfl⟩ := h
      have h1 := cmd_good hy.1 hc
      have h2 := cmds_facts hl hy.2
      refine ⟨by rw [goodL, h1.1, h2.1]; rfl, fun x hx => ?_, ?_, fun _ => ?_, ?_⟩
      · rcases List.mem_cons.1 hx with rfl | hx
        · exact h1.2.1
        · exact h2.2.1 x hx
      · have h3 := line_len h1.1
        have h4 := h2.2.2.1
        unfold textC wty at h4 ⊢
        simp only [List.flatMap_cons, List.length_append, List.map_cons, List.sum_cons]
        have := h1.2.2
        omega
      · simp only [List.length_cons]
        by_cases e : l = []
        · subst e; simp; omega
        · have := h2.2.2.2.1 e
          omega
      · rcases h2.2.2.2.2 with e | e
        · exact .inl ⟨e.1, by simp [e.2]⟩
        · exact .inr e
theorem wt_app : ∀ a b : List Tok, wt (a ++ b) = wt a + wt b
  | [], b => by simp [wt]
  | t :: a, b => by
    rw [List.cons_append, wt, wt, wt_app a b]
    omega
theorem linesA_facts (en : Int) (hen : 0 ≤ en) : ∀ (l acc : List Tok), Pl l → Pl acc → (∀ x ∈ linesA en acc l, 0 ≤ x.2 ∧ Pl x.1) ∧ wts (linesA en acc l) ≤ wt acc + wt l
  | [], acc, _, ha => by
    rw [linesA]
    split
    · exact ⟨by simp, by simp [wts]⟩
    · refine ⟨fun x hx => ?_, by simp [wts, wt]⟩
      rw [List.mem_singleton] at hx
      subst hx
      exact ⟨hen, ha⟩
  | t :: r, acc, hl, ha => by
    have ht := hl t (by simp)
    have hr : Pl r := fun x hx => hl x (by simp [hx])
    rw [linesA]
    split
    · have ih := linesA_facts en hen r [] hr (by intro x hx; simp at hx)
      constructor
      · intro x hx
        rcases List.mem_append.1 hx with hx | hx
        · split at hx
          · simp at hx
          · rw [List.mem_singleton] at hx
            subst hx
            exact ⟨ht, ha⟩
        · exact ih.1 x hx
      · have h2 := ih.2
        unfold wts at h2 ⊢
        rw [List.map_append, List.sum_append]
        simp only [wt] at h2 ⊢
        split
        · simp; omega
        · simp; omega
    · have ih := linesA_facts en hen r (acc ++ [t]) hr (by
        intro x hx
        rcases List.mem_append.1 hx with hx | hx
        · exact ha x hx
        · rw [List.mem_singleton] at hx; subst hx; exact ht)
      refine ⟨ih.1, ?_⟩
      have := ih.2
      rw [wt_app] at this
      simp only [wt] at this ⊢
      omega
/-- What is parsed is good. -/
theorem parse_back {s : List UInt8} {a : List Cm} {at_ e : Int} (hs : s.length ≤ 1048576) (h : parseC s = (a, at_, e)) : (e = 0 → goodC a = true) ∧ (e ≠ 0 → e ≠ 20 ∨ a = []) ∧ (a = [] ∨ goodC a = true) ∧ (∀ c ∈ a, ∀ s ∈ c.path, SgOk s) ∧ (textC a).length ≤ 172 * s.length := by
  have hnil : ∀ x c : Int, c ≠ 0 → (([] : List Cm), x, c) = (a, at_, e) → (e = 0 → goodC a = true) ∧ (e ≠ 0 → e ≠ 20 ∨ a = []) ∧ (a = [] ∨ goodC a = true) ∧ (∀ c ∈ a, ∀ s ∈ c.path, SgOk s) ∧ (textC a).length ≤ 172 * s.length := by
    intro x c hc h
    simp only [Prod.mk.injEq] at h
    obtain ⟨rfl, rfl, rfl⟩ := h
    exact ⟨fun e => absurd e hc, fun _ => .inr rfl, .inl rfl, by simp, by simp [textC]⟩
  unfold parseC at h
  rw [if_neg (by omega)] at h
  split at h
  · exact hnil _ _ (by decide) h
  rename_i t ht
  have htok := cut_tok s 0 0 t ht (by omega)
  have hpl : Pl t := fun x hx => (htok.1 x hx).1
  have hlines := linesA_facts (s.length : Int) (by omega) t [] hpl (by intro x hx; simp at hx)
  split at h
  · exact hnil _ _ (by decide) h
  · exact hnil _ _ (by decide) h
  · rename_i y ys hr
    have h1 := reads_facts hr hlines.1
    have h2 := cmds_facts h h1.1
    have hgood : a ≠ [] → goodC a = true := by
      intro hne
      have h3 := h2.2.2.2.1 hne
      have h4 := h2.1
      unfold goodC
      cases a with
      | nil => exact absurd rfl hne
      | cons c r =>
        rw [goodL, goodL_all] at h4
        simp only
        rw [h4]
        simp at h3 ⊢
        omega
    refine ⟨fun e0 => hgood ?_, fun e0 => .inl ?_, ?_, h2.2.1, ?_⟩
    · rintro rfl
      rcases h2.2.2.2.2 with hh | hh
      · simp at hh
      · omega
    · rcases h2.2.2.2.2 with hh | hh
      · exact absurd hh.1 e0
      · omega
    · by_cases hne : a = []
      · exact .inl hne
      · exact .inr (hgood hne)
    · have h3 := h2.2.2.1
      have h4 := h1.2
      have h5 := hlines.2
      have h6 := htok.2
      unfold linesS at h4
      have e0 : wt ([] : List Tok) = 0 := rfl
      omega
end Go.Proofs.YtefajplbgmikdaaDoor
