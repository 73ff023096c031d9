/-
  The walks of path.Good and what it calls.
-/
import Derived.Test.YtefajplbgmikdaaDoorGoodB
namespace Go.Proofs.YtefajplbgmikdaaDoor
open Go.RowKit

/-- Parts of a path, in a block below N. -/
def SegRow (w : World) (N : Nat) (v : Value) (l : List Sg) : Prop :=
  ∃ p c, v = .slice p l.length c ∧ l.length ≤ c ∧ (l = [] ∨ ∃ b o, p = some ⟨b, o, none⟩ ∧ b < N ∧ ∀ (i : Nat) s, l[i]? = some s → ∀ j u, (sgC s)[j]? = some u → w.cell? ⟨b, o + i * 8 + j, none⟩ = some u)
theorem SegRow.below {w w' : World} {N : Nat} {v : Value} {l : List Sg} (h : SegRow w N v l) (hb : Below N w w') : SegRow w' N v l := by
  obtain ⟨p, c, e, hl, h⟩ := h
  refine ⟨p, c, e, hl, ?_⟩
  rcases h with h | ⟨b, o, rfl, hlt, hc⟩
  · exact .inl h
  · exact .inr ⟨b, o, rfl, hlt, fun i t hi j u hu => (hb.cell (p := ⟨b, o + i * 8 + j, none⟩) hlt).trans (hc i t hi j u hu)⟩
theorem SegRow.mono {w : World} {N M : Nat} {v : Value} {l : List Sg} (h : SegRow w N v l) (hn : N ≤ M) : SegRow w M v l := by
  obtain ⟨p, c, e, hl, h⟩ := h
  refine ⟨p, c, e, hl, ?_⟩
  rcases h with h | ⟨b, o, rfl, hlt, hc⟩
  · exact .inl h
  · exact .inr ⟨b, o, rfl, by omega, hc⟩
theorem SegRow.bel {w w' : World} {v : Value} {l : List Sg} (h : SegRow w w.heap.size v l) (hb : Bel w w') : SegRow w' w'.heap.size v l := (h.below (Below.mono hb (Nat.le_refl _))).mono hb.size
theorem SegRow.at {w : World} {N : Nat} {v : Value} {l : List Sg} (h : SegRow w N v l) {k : Nat} {sk v0 v1 v2 v3 v4 v5 sw : Int} (hk : l[k]? = some ⟨sk, [v0, v1, v2, v3, v4, v5], sw⟩) : ∃ b o c, v = .slice (some ⟨b, o, none⟩) l.length c ∧ l.length ≤ c ∧ b < N ∧
    (w.cell? ⟨b, o + k * 8, none⟩ = some (.int .i64 sk) ∧ w.cell? ⟨b, o + k * 8 + 1, none⟩ = some (.int .i64 v0) ∧ w.cell? ⟨b, o + k * 8 + 2, none⟩ = some (.int .i64 v1) ∧ w.cell? ⟨b, o + k * 8 + 3, none⟩ = some (.int .i64 v2) ∧
     w.cell? ⟨b, o + k * 8 + 4, none⟩ = some (.int .i64 v3) ∧ w.cell? ⟨b, o + k * 8 + 5, none⟩ = some (.int .i64 v4) ∧ w.cell? ⟨b, o + k * 8 + 6, none⟩ = some (.int .i64 v5) ∧ w.cell? ⟨b, o + k * 8 + 7, none⟩ = some (.int .i64 sw)) := by
  obtain ⟨p, c, rfl, hl, h⟩ := h
  rcases h with rfl | ⟨b, o, rfl, hlt, hc⟩
  · simp at hk
  · have := hc k _ hk
    exact ⟨b, o, c, rfl, hl, hlt, this 0 _ rfl, this 1 _ rfl, this 2 _ rfl, this 3 _ rfl, this 4 _ rfl, this 5 _ rfl, this 6 _ rfl, this 7 _ rfl⟩

set_option maxRecDepth 100000 in
theorem goodf_any (s : Sg) (hv : s.v.length = 6) (w : World) : Calls Tryd.prog 35 #[.agg (sgC s).toArray] w fun e w' => e = .returned (.bool (!goodOne s)) ∧ Bel w w' := by
  obtain ⟨sk, sv, sw⟩ := s
  obtain ⟨v0, v1, v2, v3, v4, v5, rfl⟩ := six hv
  have hg := fun V => good_any ⟨sk, [v0, v1, v2, v3, v4, v5], sw⟩ hv V
  simp only [sgC, List.map_cons, List.map_nil, List.cons_append, List.nil_append] at hg ⊢
  have HG := Lib.hid hg
  obtain ⟨G, hG⟩ : ∃ G, goodOne ⟨sk, [v0, v1, v2, v3, v4, v5], sw⟩ = G := ⟨_, rfl⟩
  rw [hG] at HG ⊢
  clear hg hG hv
  go_enter Tryd.func35, Tryd.ntmps35
  go_wp2_with (first
    | (go_at_call 36; (with_reducible refine (HG.out _).mono ?_); rintro e w2 ⟨rfl, hb2⟩; have HB2 := Lib.hid hb2; clear hb2))
  go_ret
  exact ⟨rfl, ((Bel.refl w).alloc _).trans HB2.out⟩

def idxS (l : List Sg) (k : Nat) : Int := match (l.drop k).findIdx? (fun s => !goodOne s) with | some i => ((k + i : Nat) : Int) | none => -1
theorem idxS_hit {l : List Sg} {k : Nat} {s : Sg} (h : l[k]? = some s) (hg : goodOne s = false) : idxS l k = k := by
  obtain ⟨hlt, he⟩ := List.getElem?_eq_some_iff.1 h
  unfold idxS
  rw [List.drop_eq_getElem_cons hlt, he, List.findIdx?_cons]
  simp [hg]
theorem idxS_next {l : List Sg} {k : Nat} {s : Sg} (h : l[k]? = some s) (hg : goodOne s = true) : idxS l k = idxS l (k + 1) := by
  obtain ⟨hlt, he⟩ := List.getElem?_eq_some_iff.1 h
  unfold idxS
  rw [List.drop_eq_getElem_cons hlt, he, List.findIdx?_cons]
  simp only [hg, Bool.not_true, Bool.false_eq_true, if_false]
  cases (l.drop (k + 1)).findIdx? (fun s => !goodOne s) with
  | none => rfl
  | some i => simp; omega
theorem idxS_end (l : List Sg) : idxS l l.length = -1 := by unfold idxS; simp
theorem idxS_neg (l : List Sg) : decide (0 ≤ idxS l 0) = !l.all goodOne := by
  unfold idxS
  rw [List.drop_zero]
  cases h : l.findIdx? (fun s => !goodOne s) with
  | none =>
    rw [List.findIdx?_eq_none_iff] at h
    have : l.all goodOne = true := by
      rw [List.all_eq_true]
      intro s hs
      have := h s hs
      simpa using this
    rw [this]
    rfl
  | some i =>
    have hs : (l.findIdx? (fun s => !goodOne s)).isSome = true := by rw [h]; rfl
    rw [List.findIdx?_isSome] at hs
    have : l.all goodOne = false := by
      rw [List.any_eq_true] at hs
      obtain ⟨s, hs1, hs2⟩ := hs
      rw [List.all_eq_false]
      exact ⟨s, hs1, by simpa using hs2⟩
    rw [this]
    simp

set_option maxHeartbeats 2000000 in
set_option maxRecDepth 100000 in
theorem index_any (l : List Sg) (hl : ∀ s ∈ l, s.v.length = 6) (hn : l.length < 4611686018427387904) (v : Value) (w : World) (h : SegRow w w.heap.size v l) :
    Calls Tryd.prog 57 #[v, .func (.func 35) #[] #[]] w fun e w' => e = .returned (.int .i64 (idxS l 0)) ∧ Bel w w' := by
  have H := Lib.hid h
  have HL := Lib.hid hl
  obtain ⟨p, c, rfl, hc, _⟩ := h
  clear hl
  go_enter Tryd.func57, Tryd.ntmps57
  go_wp2
  go_loopg [8] l.length (fun gf i wx => ∃ k : Nat, i = .int .i64 k ∧ k ≤ l.length ∧ l.length ≤ k + gf ∧ idxS l 0 = idxS l k ∧ Bel w wx)
  case atStart => exact ⟨0, rfl, Nat.zero_le _, by omega, rfl, Bel.refl _⟩
  case round =>
    obtain ⟨k, rfl, hkl, hkg, hix, hb⟩ := hrel
    have HIX := Lib.hid hix
    have HB := Lib.hid hb
    clear hix hb
    by_cases hk : k < l.length
    · obtain ⟨gk', rfl⟩ : ∃ g, gk = g + 1 := ⟨gk - 1, by omega⟩
      obtain ⟨s, hs⟩ : ∃ s, l[k]? = some s := ⟨_, List.getElem?_eq_getElem hk⟩
      have h6 := HL.out s (List.mem_of_getElem? hs)
      obtain ⟨sk, sv, sw⟩ := s
      dsimp only at h6
      obtain ⟨v0, v1, v2, v3, v4, v5, rfl⟩ := six h6
      obtain ⟨b, o, c', he, _, hbn, hcells⟩ := (H.out.below (Below.mono HB.out (Nat.le_refl _))).at hs
      simp only [Value.slice.injEq] at he
      obtain ⟨rfl, _, rfl⟩ := he
      obtain ⟨q0, q1, q2, q3, q4, q5, q6, q7⟩ := hcells
      have hgf := goodf_any ⟨sk, [v0, v1, v2, v3, v4, v5], sw⟩ h6 wr
      simp only [sgC, List.map_cons, List.map_nil, List.cons_append, List.nil_append] at hgf
      have HGF := Lib.hid hgf
      clear hgf
      have HS := Lib.hid hs
      clear hs
      cases hg : goodOne ⟨sk, [v0, v1, v2, v3, v4, v5], sw⟩ with
      | true =>
        have HN : Hid (idxS l 0 = idxS l (k + 1)) := by unfold Hid; rw [HIX.out, idxS_next HS.out hg]
        rw [hg] at HGF
        clear hg
        go_wp2_with (first
          | (go_at_call 35; (with_reducible refine (HGF.out).mono ?_); rintro e w2 ⟨rfl, hb2⟩; have HB2 := Lib.hid hb2; clear hb2))
        go_roundg gk'
        case measure => omega
        case rel => exact ⟨k + 1, rfl, by omega, by omega, HN.out, HB.out.trans HB2.out⟩
      | false =>
        have HN : Hid (idxS l 0 = k) := by unfold Hid; rw [HIX.out, idxS_hit HS.out hg]
        rw [hg] at HGF
        clear hg
        go_wp2_with (first
          | (go_at_call 35; (with_reducible refine (HGF.out).mono ?_); rintro e w2 ⟨rfl, hb2⟩; have HB2 := Lib.hid hb2; clear hb2))
        go_ret
        exact ⟨by rw [HN.out]; rfl, HB.out.trans HB2.out⟩
    · obtain rfl : k = l.length := by omega
      have HN : Hid (idxS l 0 = -1) := by unfold Hid; rw [HIX.out, idxS_end]
      go_wp2
      go_ret
      exact ⟨by rw [HN.out]; rfl, HB.out⟩
end Go.Proofs.YtefajplbgmikdaaDoor
