/-
  The walk of the law's 'of': the path of a text.
-/
import Derived.Test.YtefajplbgmikdaaDoorGoodE
import Derived.Test.YtefajplbgmikdaaDoorPathR
import Derived.Test.YtefajplbgmikdaaDoorLexC
namespace Go.Proofs.YtefajplbgmikdaaDoor
open Go.RowKit

theorem numN_le2 : ∀ (l : List UInt8) (n : Nat), n ≤ 4611686018427387904 → numN n l ≤ 4611686018427387904
  | [], n, h => h
  | c :: l, n, h => by
    rw [numN]
    split
    · exact Nat.le_refl _
    · rename_i hx
      refine numN_le2 l _ ?_
      by_cases hc : c.toNat - 48 ≤ 4611686018427387904
      · omega
      · have : (4611686018427387904 - (c.toNat - 48)) / 10 = 0 := by omega
        have := c.toNat_lt
        omega
/-- What the tokens of a text are. -/
theorem cut_tok : ∀ (l : List UInt8) (i tt : Nat) (ts : List Tok), cutL l i tt = .ok ts → i + l.length ≤ 1048576 → (∀ t ∈ ts, TkOk t) ∧ wt ts ≤ 2 * (l.length - (tt - i))
  | [], i, tt, ts, h, _ => by
    simp only [cutL, Except.ok.injEq] at h
    subst h
    simp [wt]
  | c :: r, i, tt, ts, h, hi => by
    have hlen : (c :: r).length = r.length + 1 := rfl
    rw [hlen] at hi ⊢
    rw [cutL] at h
    split at h
    · have := cut_tok r (i + 1) tt ts h (by omega)
      exact ⟨this.1, by omega⟩
    · rename_i hto
      have hmap : ∀ {t : Tok} {x : Except Nat (List Tok)}, x.map (t :: ·) = .ok ts → ∃ rs, x = .ok rs ∧ ts = t :: rs := by
        intro t x hx
        cases x with
        | error e => simp [Except.map] at hx
        | ok rs => simp only [Except.map, Except.ok.injEq] at hx; exact ⟨rs, rfl, hx.symm⟩
      have hcons : ∀ {t : Tok} {rs : List Tok} {tq : Nat}, cutL r (i + 1) tq = .ok rs → ts = t :: rs → TkOk t → t.s.length + 1 ≤ 2 * (tq - i) → i < tq → (∀ t ∈ ts, TkOk t) ∧ wt ts ≤ 2 * (r.length + 1 - (tt - i)) ∨ r.length + 1 < tq - i := by
        intro t rs tq hr he ht hw hlt
        have ih := cut_tok r (i + 1) tq rs hr (by omega)
        subst he
        by_cases hle : tq - i ≤ r.length + 1
        · left
          refine ⟨fun x hx => ?_, by simp only [wt]; omega⟩
          rcases List.mem_cons.1 hx with rfl | hx
          · exact ht
          · exact ih.1 x hx
        · right; omega
      split at h
      · have := cut_tok r (i + 1) tt ts h (by omega)
        exact ⟨this.1, by omega⟩
      split at h
      · rename_i hk
        obtain ⟨rs, h1, h2⟩ := hmap h
        have hrl := runL_le 2 (c :: r)
        have hrp : 1 ≤ runL 2 (c :: r) := by rw [runL_pos hk]; omega
        rw [hlen] at hrl
        rcases hcons h1 h2 ⟨by show (0 : Int) ≤ i; omega, by show (i : Int) ≤ _; omega, by rw [List.length_take]; omega, by dsimp only; omega, by dsimp only; omega⟩ (by rw [List.length_take]; omega) (by omega) with h | h
        · exact h
        · omega
      split at h
      · rename_i hk
        obtain ⟨rs, h1, h2⟩ := hmap h
        have hrl := runL_le 3 (c :: r)
        have hrp : 1 ≤ runL 3 (c :: r) := by rw [runL_pos hk]; omega
        rw [hlen] at hrl
        have hn := numN_le2 ((c :: r).take (runL 3 (c :: r))) 0 (by omega)
        rcases hcons h1 h2 ⟨by show (0 : Int) ≤ i; omega, by show (i : Int) ≤ _; omega, by simp, by dsimp only; omega, by dsimp only; omega⟩ (by simp; omega) (by omega) with h | h
        · exact h
        · omega
      split at h
      · split at h
        · cases h
        · obtain ⟨rs, h1, h2⟩ := hmap h
          have hrl := runL_le 3 r
          have hn := numN_le2 (r.take (runL 3 r)) 0 (by omega)
          rcases hcons h1 h2 ⟨by show (0 : Int) ≤ i; omega, by show (i : Int) ≤ _; omega, by simp, by dsimp only; omega, by dsimp only; omega⟩ (by simp; omega) (by omega) with h | h
          · exact h
          · omega
      split at h
      · obtain ⟨rs, h1, h2⟩ := hmap h
        rcases hcons h1 h2 ⟨by show (0 : Int) ≤ i; omega, by show (i : Int) ≤ _; omega, by simp, by dsimp only; omega, by dsimp only; omega⟩ (by simp) (by omega) with h | h
        · exact h
        · omega
      · cases h

theorem toks_row {w : World} {base : Nat} {v : Value} {l : List Tok} (h : w.ownsRow base 106 4 v l.length (toksC l)) : TokRow w w.heap.size v l := by
  obtain ⟨hl2, h0 | ⟨g2, cap2, cur2, e2, hb2, hg2, hn2, _, hs2, ht2⟩⟩ := h
  · exact ⟨none, 0, by rw [h0.1, h0.2], by omega, .inl (List.eq_nil_of_length_eq_zero h0.2)⟩
  · refine ⟨_, cap2, e2, hn2, .inr ⟨g2, 0, rfl, heap_lt hg2, fun i t hi j v hj => ?_⟩⟩
    rw [heap_cell hg2, ← Array.getElem?_toList]
    have h3 : (toksC l)[i * 4 + j]? = some v := flat_at (f := tokC) (n := 4) (fun _ _ => rfl) hi hj
    rw [← ht2, List.getElem?_take] at h3
    split at h3
    · rw [Nat.zero_add]; exact h3
    · cases h3
theorem SRow.read {w : World} {base : Nat} {v : Value} {l : List Sg} (h : SRow w base v l) (h6 : ∀ s ∈ l, s.v.length = 6) : SegRow w w.heap.size v l := by
  obtain ⟨hl2, h0 | ⟨g2, cap2, cur2, e2, hb2, hg2, hn2, _, hs2, ht2⟩⟩ := h
  · exact ⟨none, 0, by rw [h0.1, h0.2], by omega, .inl (List.eq_nil_of_length_eq_zero h0.2)⟩
  · refine ⟨_, cap2, e2, hn2, .inr ⟨g2, 0, rfl, heap_lt hg2, fun i t hi j v hj => ?_⟩⟩
    rw [heap_cell hg2, ← Array.getElem?_toList]
    have h3 : (l.flatMap sgC)[i * 8 + j]? = some v := flat_at (f := sgC) (n := 8) (fun s hs => by simp [sgC, h6 s hs]) hi hj
    rw [← ht2, List.getElem?_take] at h3
    split at h3
    · rw [Nat.zero_add]; exact h3
    · cases h3

theorem parse_three {w : World} {R : Except (Int × Int) (List Sg)} {e : Ending} {w' : World} (h : ParsePost w R e w') : ∃ v a c, e = .returned (.tuple #[v, .int .i64 a, .int .i64 c]) := by
  obtain ⟨_, h⟩ := h
  cases R with
  | error a => exact ⟨_, _, _, h⟩
  | ok l => obtain ⟨v, h, _⟩ := h; exact ⟨_, _, _, h⟩
/-- What 'of' tells. -/
def OfPost (s : List UInt8) (w : World) (e : Ending) (w' : World) : Prop := ParsePost w (ofS s) e w'
set_option maxHeartbeats 2000000 in
set_option maxRecDepth 100000 in
theorem of_any (s : List UInt8) (hs : s.length ≤ 1048576) (w : World) (hr : Rul w) (hg : 2 < w.heap.size) :
    Calls Tryd.prog 18 #[.string ⟨s.toArray⟩] w (OfPost s w) := by
  have hcut := cut_any ⟨s.toArray⟩ w
  have hsz : (⟨s.toArray⟩ : ByteArray).size = s.length := rfl
  have hbl : bl ⟨s.toArray⟩ = s := rfl
  have hcut2 : Calls Tryd.prog 38 #[.string ⟨s.toArray⟩] w (CutPost ⟨s.toArray⟩ w) := hcut.mono fun e w' h => h.elim (fun h => absurd h.1 (by rw [hsz]; omega)) (fun h => h.2)
  have HC := Lib.hid hcut2
  obtain ⟨sb, hsb⟩ : ∃ sb : ByteArray, (⟨s.toArray⟩ : ByteArray) = sb := ⟨_, rfl⟩
  rw [hsb] at HC hsz hbl ⊢
  have HSB := Lib.hid hsb
  clear hcut hcut2 hsb
  cases hc : cutL s 0 0 with
  | error i =>
    have HE : Hid (∀ w', Bel w w' → OfPost s w (.returned (.tuple #[.slice none 0 0, .int .i64 i, .int .i64 20])) w') := fun w' hb => by
      have : ofS s = .error (i, 20) := by unfold ofS; rw [hc]
      unfold OfPost
      rw [this]
      exact ⟨hb, rfl⟩
    have HC2 : Hid (Calls Tryd.prog 38 #[.string sb] w fun e w' => Bel w w' ∧ e = .returned (.tuple #[.slice none 0 0, .int .i64 i, .int .i64 20])) := (HC.out).mono fun e w' h => by
      unfold CutPost at h
      rw [hbl, hc] at h
      exact h
    clear hc HC hbl
    go_enter Tryd.func18, Tryd.ntmps18
    go_wp2_with (first
      | (go_at_call 38; (with_reducible refine (HC2.out).mono ?_); rintro e w2 ⟨hb2, rfl⟩; have HB2 := Lib.hid hb2; clear hb2))
    exact bodyPost_ret (v := .tuple #[.slice none 0 0, .int .i64 i, .int .i64 20]) (by simp [results, Tryd.results18, go_sem]) rfl (HE.out _ HB2.out)
  | ok l =>
    have hto := cut_tok s 0 0 l hc (by omega)
    have HTO := Lib.hid hto
    have HE : Hid (∀ w2 w' e, Bel w w2 → ParsePost w2 (parseS l s.length) e w' → OfPost s w e w') := fun w2 w' e hb hp => by
      have : ofS s = parseS l s.length := by unfold ofS; rw [hc]
      unfold OfPost ParsePost at *
      rw [this]
      refine ⟨hb.trans hp.1, ?_⟩
      have h2 := hp.2
      cases hps : parseS l s.length with
      | error a => rw [hps] at h2; exact h2
      | ok r =>
        rw [hps] at h2
        obtain ⟨v, h3, h4⟩ := h2
        exact ⟨v, h3, own_base h4 hb.size⟩
    have HC2 : Hid (Calls Tryd.prog 38 #[.string sb] w fun e w' => Bel w w' ∧ ∃ v, e = .returned (.tuple #[v, .int .i64 0, .int .i64 0]) ∧ w'.ownsRow w.heap.size 106 4 v l.length (toksC l)) := (HC.out).mono fun e w' h => by
      unfold CutPost at h
      rw [hbl, hc] at h
      exact h
    have HRU : Hid (Rul w ∧ 2 < w.heap.size) := ⟨hr, hg⟩
    clear hc HC hbl hto hr
    obtain ⟨N, hN⟩ : ∃ N, s.length = N := ⟨_, rfl⟩
    rw [hN] at hsz HE hs
    go_enter Tryd.func18, Tryd.ntmps18
    go_wp2_with (first
      | (go_at_call 38; (with_reducible refine (HC2.out).mono ?_); rintro e w2 ⟨hb2, v2, rfl, ho2⟩; have HB2 := Lib.hid hb2; have HPA := Lib.hid (parse_any l v2 N w2 (toks_row ho2) HTO.out.1 (by have := HTO.out.2; omega) (hb2.rul HRU.out.1) (Nat.lt_of_lt_of_le HRU.out.2 hb2.size)); clear hb2 ho2)
      | (go_at_call 39; (with_reducible refine (HPA.out).mono ?_); rintro e w3 hp3; (obtain ⟨v3, a3, c3, rfl⟩ := parse_three hp3); have HP3 := Lib.hid (HE.out _ _ _ HB2.out hp3); clear hp3))
    exact bodyPost_ret (v := .tuple #[v3, .int .i64 a3, .int .i64 c3]) (by simp [results, Tryd.results18, go_sem]) rfl HP3.out
end Go.Proofs.YtefajplbgmikdaaDoor
