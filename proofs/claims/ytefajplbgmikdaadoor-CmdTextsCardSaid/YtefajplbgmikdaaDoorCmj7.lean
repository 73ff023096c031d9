/-
  The walks of path.Good and what it calls.
-/
import Derived.Test.YtefajplbgmikdaaDoorCmj6
import Derived.Test.YtefajplbgmikdaaDoorCmj5
import Derived.Deep.CutRange
import Derived.Deep.CutBlock
namespace Go.Proofs.YtefajplbgmikdaaDoor
open Go.RowKit

/-- Parts of a path, in a block below N. -/
def SegRow (w : World) (N : Nat) (v : Value) (l : List Sg) : Prop :=
  ∃ p c, v = .slice p l.length c ∧ l.length ≤ c ∧ (l = [] ∨ ∃ b o, p = some ⟨b, o, none⟩ ∧ b < N ∧ ∀ (i : Nat) s, l[i]? = some s → ∀ j u, (sgC s)[j]? = some u → w.cell? ⟨b, o + i * 8 + j, none⟩ = some u)
theorem SegRow.below {w w' : World} {N : Nat} {v : Value} {l : List Sg} (h : SegRow w N v l) (hb : Below N w w') : SegRow w' N v l := by
  obtain ⟨p, c, e, hl, h⟩ := h
  refine ⟨p, c, e, hl, ?_⟩
  rcases h with h | ⟨b, o, rfl, hlt, hc⟩
  · exact .inl h
  · exact .inr ⟨b, o, rfl, hlt, fun i t hi j u hu => (hb.cell (p := ⟨b, o + i * 8 + j, none⟩) hlt).trans (hc i t hi j u hu)⟩
theorem SegRow.mono {w : World} {N M : Nat} {v : Value} {l : List Sg} (h : SegRow w N v l) (hn : N ≤ M) : SegRow w M v l := by
  obtain ⟨p, c, e, hl, h⟩ := h
  refine ⟨p, c, e, hl, ?_⟩
  rcases h with h | ⟨b, o, rfl, hlt, hc⟩
  · exact .inl h
  · exact .inr ⟨b, o, rfl, by omega, hc⟩
theorem SegRow.bel {w w' : World} {v : Value} {l : List Sg} (h : SegRow w w.heap.size v l) (hb : Bel w w') : SegRow w' w'.heap.size v l := (h.below (Below.mono hb (Nat.le_refl _))).mono hb.size
theorem SegRow.at {w : World} {N : Nat} {v : Value} {l : List Sg} (h : SegRow w N v l) {k : Nat} {sk v0 v1 v2 v3 v4 v5 sw : Int} (hk : l[k]? = some ⟨sk, [v0, v1, v2, v3, v4, v5], sw⟩) : ∃ b o c, v = .slice (some ⟨b, o, none⟩) l.length c ∧ l.length ≤ c ∧ b < N ∧
    (w.cell? ⟨b, o + k * 8, none⟩ = some (.int .i64 sk) ∧ w.cell? ⟨b, o + k * 8 + 1, none⟩ = some (.int .i64 v0) ∧ w.cell? ⟨b, o + k * 8 + 2, none⟩ = some (.int .i64 v1) ∧ w.cell? ⟨b, o + k * 8 + 3, none⟩ = some (.int .i64 v2) ∧
     w.cell? ⟨b, o + k * 8 + 4, none⟩ = some (.int .i64 v3) ∧ w.cell? ⟨b, o + k * 8 + 5, none⟩ = some (.int .i64 v4) ∧ w.cell? ⟨b, o + k * 8 + 6, none⟩ = some (.int .i64 v5) ∧ w.cell? ⟨b, o + k * 8 + 7, none⟩ = some (.int .i64 sw)) := by
  obtain ⟨p, c, rfl, hl, h⟩ := h
  rcases h with rfl | ⟨b, o, rfl, hlt, hc⟩
  · simp at hk
  · have := hc k _ hk
    exact ⟨b, o, c, rfl, hl, hlt, this 0 _ rfl, this 1 _ rfl, this 2 _ rfl, this 3 _ rfl, this 4 _ rfl, this 5 _ rfl, this 6 _ rfl, this 7 _ rfl⟩

set_option maxRecDepth 100000 in
theorem goodf_any (s : Sg) (hv : s.v.length = 6) (w : World) : Calls Tryd.prog 35 #[.agg (sgC s).toArray] w fun e w' => e = .returned (.bool (!goodOne s)) ∧ Bel w w' := by
  obtain ⟨sk, sv, sw⟩ := s
  obtain ⟨v0, v1, v2, v3, v4, v5, rfl⟩ := six hv
  have hg := fun V => good_any ⟨sk, [v0, v1, v2, v3, v4, v5], sw⟩ hv V
  simp only [sgC, List.map_cons, List.map_nil, List.cons_append, List.nil_append] at hg ⊢
  have HG := Lib.hid hg
  obtain ⟨G, hG⟩ : ∃ G, goodOne ⟨sk, [v0, v1, v2, v3, v4, v5], sw⟩ = G := ⟨_, rfl⟩
  rw [hG] at HG ⊢
  clear hg hG hv
  go_enter Tryd.func35, Tryd.ntmps35
  go_wp2_with (first
    | (go_at_call 36; (with_reducible refine (HG.out _).mono ?_); rintro e w2 ⟨rfl, hb2⟩; have HB2 := Lib.hid hb2; clear hb2))
  go_ret
  exact ⟨rfl, ((Bel.refl w).alloc _).trans HB2.out⟩

def idxS (l : List Sg) (k : Nat) : Int := match (l.drop k).findIdx? (fun s => !goodOne s) with | some i => ((k + i : Nat) : Int) | none => -1
theorem idxS_hit {l : List Sg} {k : Nat} {s : Sg} (h : l[k]? = some s) (hg : goodOne s = false) : idxS l k = k := by
  obtain ⟨hlt, he⟩ := List.getElem?_eq_some_iff.1 h
  unfold idxS
  rw [List.drop_eq_getElem_cons hlt, he, List.findIdx?_cons]
  simp [hg]
theorem idxS_next {l : List Sg} {k : Nat} {s : Sg} (h : l[k]? = some s) (hg : goodOne s = true) : idxS l k = idxS l (k + 1) := by
  obtain ⟨hlt, he⟩ := List.getElem?_eq_some_iff.1 h
  unfold idxS
  rw [List.drop_eq_getElem_cons hlt, he, List.findIdx?_cons]
  simp only [hg, Bool.not_true, Bool.false_eq_true, if_false]
  cases (l.drop (k + 1)).findIdx? (fun s => !goodOne s) with
  | none => rfl
  | some i => simp; omega
theorem idxS_end (l : List Sg) : idxS l l.length = -1 := by unfold idxS; simp
theorem idxS_neg (l : List Sg) : decide (0 ≤ idxS l 0) = !l.all goodOne := by
  unfold idxS
  rw [List.drop_zero]
  cases h : l.findIdx? (fun s => !goodOne s) with
  | none =>
    rw [List.findIdx?_eq_none_iff] at h
    have : l.all goodOne = true := by
      rw [List.all_eq_true]
      intro s hs
      have := h s hs
      simpa using this
    rw [this]
    rfl
  | some i =>
    have hs : (l.findIdx? (fun s => !goodOne s)).isSome = true := by rw [h]; rfl
    rw [List.findIdx?_isSome] at hs
    have : l.all goodOne = false := by
      rw [List.any_eq_true] at hs
      obtain ⟨s, hs1, hs2⟩ := hs
      rw [List.all_eq_false]
      exact ⟨s, hs1, by simpa using hs2⟩
    rw [this]
    simp

set_option maxHeartbeats 2000000 in
set_option maxRecDepth 100000 in
theorem index_any (l : List Sg) (hl : ∀ s ∈ l, s.v.length = 6) (hn : l.length < 4611686018427387904) (v : Value) (w : World) (h : SegRow w w.heap.size v l) :
    Calls Tryd.prog 57 #[v, .func (.func 35) #[] #[]] w fun e w' => e = .returned (.int .i64 (idxS l 0)) ∧ Bel w w' := by
  have H := Lib.hid h
  have HL := Lib.hid hl
  obtain ⟨p, c, rfl, hc, _⟩ := h
  clear hl
  go_enter Tryd.func57, Tryd.ntmps57
  go_wp2
  go_loopg [8] l.length (fun gf i wx => ∃ k : Nat, i = .int .i64 k ∧ k ≤ l.length ∧ l.length ≤ k + gf ∧ idxS l 0 = idxS l k ∧ Bel w wx)
  case atStart => exact ⟨0, rfl, Nat.zero_le _, by omega, rfl, Bel.refl _⟩
  case round =>
    obtain ⟨k, rfl, hkl, hkg, hix, hb⟩ := hrel
    have HIX := Lib.hid hix
    have HB := Lib.hid hb
    clear hix hb
    by_cases hk : k < l.length
    · obtain ⟨gk', rfl⟩ : ∃ g, gk = g + 1 := ⟨gk - 1, by omega⟩
      obtain ⟨s, hs⟩ : ∃ s, l[k]? = some s := ⟨_, List.getElem?_eq_getElem hk⟩
      have h6 := HL.out s (List.mem_of_getElem? hs)
      obtain ⟨sk, sv, sw⟩ := s
      dsimp only at h6
      obtain ⟨v0, v1, v2, v3, v4, v5, rfl⟩ := six h6
      obtain ⟨b, o, c', he, _, hbn, hcells⟩ := (H.out.below (Below.mono HB.out (Nat.le_refl _))).at hs
      simp only [Value.slice.injEq] at he
      obtain ⟨rfl, _, rfl⟩ := he
      obtain ⟨q0, q1, q2, q3, q4, q5, q6, q7⟩ := hcells
      have hgf := goodf_any ⟨sk, [v0, v1, v2, v3, v4, v5], sw⟩ h6 wr
      simp only [sgC, List.map_cons, List.map_nil, List.cons_append, List.nil_append] at hgf
      have HGF := Lib.hid hgf
      clear hgf
      have HS := Lib.hid hs
      clear hs
      cases hg : goodOne ⟨sk, [v0, v1, v2, v3, v4, v5], sw⟩ with
      | true =>
        have HN : Hid (idxS l 0 = idxS l (k + 1)) := by unfold Hid; rw [HIX.out, idxS_next HS.out hg]
        rw [hg] at HGF
        clear hg
        go_wp2_with (first
          | (go_at_call 35; (with_reducible refine (HGF.out).mono ?_); rintro e w2 ⟨rfl, hb2⟩; have HB2 := Lib.hid hb2; clear hb2))
        go_roundg gk'
        case measure => omega
        case rel => exact ⟨k + 1, rfl, by omega, by omega, HN.out, HB.out.trans HB2.out⟩
      | false =>
        have HN : Hid (idxS l 0 = k) := by unfold Hid; rw [HIX.out, idxS_hit HS.out hg]
        rw [hg] at HGF
        clear hg
        go_wp2_with (first
          | (go_at_call 35; (with_reducible refine (HGF.out).mono ?_); rintro e w2 ⟨rfl, hb2⟩; have HB2 := Lib.hid hb2; clear hb2))
        go_ret
        exact ⟨by rw [HN.out]; rfl, HB.out.trans HB2.out⟩
    · obtain rfl : k = l.length := by omega
      have HN : Hid (idxS l 0 = -1) := by unfold Hid; rw [HIX.out, idxS_end]
      go_wp2
      go_ret
      exact ⟨by rw [HN.out]; rfl, HB.out⟩
end Go.Proofs.YtefajplbgmikdaaDoor

/-
  The walk of path.Good.
-/
namespace Go.Proofs.YtefajplbgmikdaaDoor
open Go.RowKit

set_option maxRecDepth 100000 in
theorem contains_any (l : List Sg) (hl : ∀ s ∈ l, s.v.length = 6) (hn : l.length < 4611686018427387904) (v : Value) (w : World) (h : SegRow w w.heap.size v l) :
    Calls Tryd.prog 34 #[v, .func (.func 35) #[] #[]] w fun e w' => e = .returned (.bool (!l.all goodOne)) ∧ Bel w w' := by
  have hi := index_any l hl hn v w h
  rw [← idxS_neg]
  obtain ⟨p, c, rfl, hc, _⟩ := h
  generalize idxS l 0 = I at hi ⊢
  have HI := Lib.hid hi
  clear hi hl
  go_enter Tryd.func34, Tryd.ntmps34
  go_wp2_with (first
    | (go_at_call 57; (with_reducible refine (HI.out).mono ?_); rintro e w2 ⟨rfl, hb2⟩; have HB2 := Lib.hid hb2; clear hb2))
  go_ret
  exact ⟨rfl, HB2.out⟩
theorem noTwo_step {l : List Sg} {k : Nat} {a b : Sg} (ha : l[k]? = some a) (hb : l[k + 1]? = some b) : noTwo (l.drop k) = (!(decide (a.kind = 6) && decide (b.kind = 6)) && noTwo (l.drop (k + 1))) := by
  obtain ⟨h1, e1⟩ := List.getElem?_eq_some_iff.1 ha
  obtain ⟨h2, e2⟩ := List.getElem?_eq_some_iff.1 hb
  rw [List.drop_eq_getElem_cons h1, List.drop_eq_getElem_cons h2, e1, e2, noTwo]
theorem noTwo_end {l : List Sg} {k : Nat} (h : l.length = k + 1) : noTwo (l.drop k) = true := by
  have : (l.drop k).length = 1 := by simp; omega
  match h2 : l.drop k, this with
  | [a], _ => rfl

set_option maxHeartbeats 2000000 in
set_option maxRecDepth 100000 in
theorem goodAll_any (l : List Sg) (hl : ∀ s ∈ l, s.v.length = 6) (hn : l.length < 4611686018427387904) (v : Value) (w : World) (h : SegRow w w.heap.size v l) :
    Calls Tryd.prog 15 #[v] w fun e w' => e = .returned (.bool (goodS l)) ∧ Bel w w' := by
  have HC := Lib.hid (contains_any l hl hn v w h)
  have H := Lib.hid h
  have HL := Lib.hid hl
  obtain ⟨p, c, rfl, hc, _⟩ := h
  obtain ⟨G, hG⟩ : ∃ G, goodS l = G := ⟨_, rfl⟩
  rw [hG]
  have HG : Hid (G = (headOk l && decide (l.length ≤ 4096) && l.all goodOne && noTwo l)) := hG.symm
  clear hl hG
  go_enter Tryd.func15, Tryd.ntmps15
  cases hl0 : l with
  | nil =>
    have HE : Hid (G = false) := by unfold Hid; rw [HG.out, hl0]; rfl
    subst hl0
    go_wp2
    go_ret
    exact ⟨by rw [HE.out]; rfl, Bel.refl _⟩
  | cons s0 r0 =>
    have hpos : 0 < l.length := by rw [hl0]; simp
    have hs0 : l[0]? = some s0 := by rw [hl0]; rfl
    have hhd : headOk l = decide (s0.kind = 1) := by rw [hl0]; rfl
    rw [← hl0]
    clear hl0
    have h6 := HL.out s0 (List.mem_of_getElem? hs0)
    obtain ⟨sk, sv, sw⟩ := s0
    dsimp only at h6 hhd
    obtain ⟨v0, v1, v2, v3, v4, v5, rfl⟩ := six h6
    obtain ⟨b, o, c', he, _, hbn, hcells⟩ := H.out.at hs0
    simp only [Value.slice.injEq] at he
    obtain ⟨rfl, _, rfl⟩ := he
    rw [Nat.zero_mul, Nat.add_zero] at hcells
    obtain ⟨q0, q1, q2, q3, q4, q5, q6, q7⟩ := hcells
    clear hs0 h6
    have hne : ((l.length : Int) == 0) = false := by rw [beq_eq_false_iff_ne]; omega
    by_cases h96 : l.length ≤ 4096
    · by_cases h1 : sk = 1
      · have h1' : (sk != 1) = false := by simpa using h1
        cases ha : l.all goodOne with
        | false =>
          rw [ha] at HC
          have HE : Hid (G = false) := by unfold Hid; rw [HG.out, ha]; simp
          clear ha h1
          go_wp2_with (first
            | (go_at_call 34; (with_reducible refine (HC.out).mono ?_); rintro e w2 ⟨rfl, hb2⟩; have HB2 := Lib.hid hb2; clear hb2))
          go_ret
          exact ⟨by rw [HE.out]; rfl, HB2.out⟩
        | true =>
          rw [ha] at HC
          have HE : Hid (G = noTwo l) := by unfold Hid; rw [HG.out, ha, hhd, decide_eq_true h1, decide_eq_true h96]; simp
          clear ha h1
          obtain ⟨p1, hpp⟩ : ∃ p1, (if c = 1 then some (⟨b, o, none⟩ : Addr) else some ⟨b, o + 8, none⟩) = p1 := ⟨_, rfl⟩
          go_wp2_with (first
            | (go_at_call 34; (with_reducible refine (HC.out).mono ?_); rintro e w2 ⟨rfl, hb2⟩; have HB2 := Lib.hid hb2; clear hb2))
          have HN0 : Hid (noTwo l = noTwo (l.drop 0)) := by unfold Hid; rw [List.drop_zero]
          clear q0 q1 q2 q3 q4 q5 q6 q7
          go_loopg [26] l.length (fun gf i wx => ∃ k : Nat, i = .int .i64 k ∧ k + 1 ≤ l.length ∧ l.length ≤ k + gf ∧ noTwo l = noTwo (l.drop k) ∧ Bel w wx)
          case atStart => exact ⟨0, rfl, by omega, by omega, HN0.out, HB2.out⟩
          case round =>
            obtain ⟨k, rfl, hkl, hkg, hno, hb⟩ := hrel
            have HNO := Lib.hid hno
            have HB := Lib.hid hb
            clear hno hb
            by_cases hk : k + 1 < l.length
            · obtain ⟨gk', rfl⟩ : ∃ g, gk = g + 1 := ⟨gk - 1, by omega⟩
              obtain ⟨s, hs⟩ : ∃ s, l[k]? = some s := ⟨_, List.getElem?_eq_getElem (by omega)⟩
              obtain ⟨t, ht⟩ : ∃ t, l[k + 1]? = some t := ⟨_, List.getElem?_eq_getElem hk⟩
              have h6 := HL.out s (List.mem_of_getElem? hs)
              have h7 := HL.out t (List.mem_of_getElem? ht)
              have HST := Lib.hid (noTwo_step hs ht)
              obtain ⟨ka, sv, sw'⟩ := s
              obtain ⟨kb, tv, tw⟩ := t
              dsimp only at h6 h7 HST
              obtain ⟨a0, a1, a2, a3, a4, a5, rfl⟩ := six h6
              obtain ⟨b0, b1, b2, b3, b4, b5, rfl⟩ := six h7
              obtain ⟨bb, oo, cc, he, _, _, qa, _⟩ := (H.out.below (Below.mono HB.out (Nat.le_refl _))).at hs
              simp only [Value.slice.injEq] at he
              obtain ⟨he1, _, rfl⟩ := he
              simp only [Option.some.injEq, Addr.mk.injEq] at he1
              obtain ⟨rfl, rfl, _⟩ := he1
              obtain ⟨bb, oo, cc, he, _, _, qb, _⟩ := (H.out.below (Below.mono HB.out (Nat.le_refl _))).at ht
              simp only [Value.slice.injEq] at he
              obtain ⟨he1, _, rfl⟩ := he
              simp only [Option.some.injEq, Addr.mk.injEq] at he1
              obtain ⟨rfl, rfl, _⟩ := he1
              clear hs ht h6 h7
              have hki : (k : Int) < (l.length : Int) - 1 := by omega
              by_cases k6 : ka = 6
              · have k6' : (ka == 6) = true := by simpa using k6
                by_cases m6 : kb = 6
                · have m6' : (kb == 6) = true := by simpa using m6
                  have HE2 : Hid (G = false) := by unfold Hid; rw [HE.out, HNO.out, HST.out, decide_eq_true k6, decide_eq_true m6]; rfl
                  clear k6 m6
                  go_wp2
                  go_ret
                  exact ⟨by rw [HE2.out]; rfl, HB.out⟩
                · have m6' : (kb == 6) = false := by simpa using m6
                  have HNN : Hid (noTwo l = noTwo (l.drop (k + 1))) := by unfold Hid; rw [HNO.out, HST.out, decide_eq_false m6]; simp
                  clear k6 m6
                  go_wp2
                  go_roundg gk'
                  case measure => omega
                  case rel => exact ⟨k + 1, rfl, by omega, by omega, HNN.out, HB.out⟩
              · have k6' : (ka == 6) = false := by simpa using k6
                have HNN : Hid (noTwo l = noTwo (l.drop (k + 1))) := by unfold Hid; rw [HNO.out, HST.out, decide_eq_false k6]; simp
                clear k6
                go_wp2
                go_roundg gk'
                case measure => omega
                case rel => exact ⟨k + 1, rfl, by omega, by omega, HNN.out, HB.out⟩
            · have HE2 : Hid (G = true) := by unfold Hid; rw [HE.out, HNO.out, noTwo_end (by omega)]
              have hki : ¬ (k : Int) < (l.length : Int) - 1 := by omega
              go_wp2
              go_ret
              exact ⟨by rw [HE2.out]; rfl, HB.out⟩
      · have h1' : (sk != 1) = true := by simpa using h1
        have HE : Hid (G = false) := by unfold Hid; rw [HG.out, hhd, decide_eq_false h1]; simp
        clear h1
        go_wp2
        go_ret
        exact ⟨by rw [HE.out]; rfl, Bel.refl _⟩
    · have HE : Hid (G = false) := by unfold Hid; rw [HG.out, decide_eq_false h96]; simp
      have h96' : decide ((4096 : Int) < (l.length : Int)) = true := decide_eq_true (by omega)
      go_wp2
      go_ret
      exact ⟨by rw [HE.out]; rfl, Bel.refl _⟩
end Go.Proofs.YtefajplbgmikdaaDoor

/-
  The walk of path.Text.
-/
namespace Go.Proofs.YtefajplbgmikdaaDoor
open Go.RowKit

def strV (b : List UInt8) : Value := .string ⟨b.toArray⟩
/-- A row of words of the call's own. -/
def WRow (w : World) (base : Nat) (v : Value) (ws : List (List UInt8)) : Prop := w.ownsRow base 9 1 v ws.length (ws.map strV)
theorem WRow.bel {w w' : World} {base : Nat} {v : Value} {l : List (List UInt8)} (h : WRow w base v l) (hb : Bel w w') : WRow w' base v l := Bel.own hb h
theorem infoStr : (Tryd.prog.info? 9).map (fun i => (i.zero, i.size, i.bytes)) = some (some (.string ⟨#[]⟩), 1, 16) := by kernel_rfl
theorem strB (b : List UInt8) : (⟨b.toArray⟩ : ByteArray).data.toList = b := rfl
/-- What Text tells. -/
def TextPost (w : World) (l : List Sg) (e : Ending) (w' : World) : Prop :=
  Bel w w' ∧ e = .returned (.tuple #[if goodS l = true then strV (textS l) else .string ⟨#[]⟩, .int .i64 (if goodS l = true then 0 else 11)])

theorem fmt_any (n : Int) (h0 : -9223372036854775808 ≤ n) (h1 : n ≤ 9223372036854775807) (w : World) (ht : Tab w) : Calls Tryd.prog 30 #[.int .i64 n, .int .i64 10] w fun e w' => e = .returned (.string ⟨(Lib.itoa n).toArray⟩) ∧ Bel w w' :=
  (Tryd.strconv_FormatInt_10 n h0 h1 w ht.here).mono fun e w' ⟨he, k, os, hw⟩ => ⟨he, by rw [hw]; exact Lib.below_grow _ _ (Nat.le_refl _) _ _⟩
/-- In the loop: the part's box, the words so far. -/
structure Wd (w0 V : World) (T : Nat) (cs : Array Value) (v : Value) (ws : List (List UInt8)) : Prop where
  bel : Bel w0 V
  box : V.heap[T]? = some (.cells cs 36 (0, 0))
  row : WRow V w0.heap.size v ws
theorem Wd.on {w0 V V' : World} {T : Nat} {cs : Array Value} {v : Value} {ws : List (List UInt8)} (h : Wd w0 V T cs v ws) (hb : Bel V V') : Wd w0 V' T cs v ws := ⟨h.bel.trans hb, hb.heap h.box, h.row.bel hb⟩
theorem Wd.push {w0 V V' : World} {T : Nat} {cs : Array Value} {v v' : Value} {ws : List (List UInt8)} {b : List UInt8} (h : Wd w0 V T cs v ws) (ho : V'.ownsRow w0.heap.size 9 1 v' (ws.length + 1) (ws.map strV ++ [strV b])) (hg : V.grownBy V' v.ownBlock) : Wd w0 V' T cs v' (ws ++ [b]) := by
  refine ⟨But.bel h.bel hg (fun k hk => (h.row.lt k hk).1), (hg.block T (heap_lt h.box) fun e => ?_).trans h.box, ?_⟩
  · obtain ⟨c1, e1⟩ := own_type h.row e.symm
    rw [h.box] at e1
    cases e1
  · unfold WRow
    rw [List.length_append, List.map_append]
    exact ho
theorem slat0 (T : Nat) (w : World) : (Instr.sliceAt 34 (.pointer (some ⟨T, 1, none⟩)) none (some (.int .i64 0)) none).run Tryd.prog w = .ok (.slice (some ⟨T, 1, none⟩) 0 6) w := by kernel_rfl
theorem slat2 (T : Nat) (w : World) : (Instr.sliceAt 34 (.pointer (some ⟨T, 1, none⟩)) none (some (.int .i64 2)) none).run Tryd.prog w = .ok (.slice (some ⟨T, 1, none⟩) 2 6) w := by kernel_rfl
theorem slat4 (T : Nat) (w : World) : (Instr.sliceAt 34 (.pointer (some ⟨T, 1, none⟩)) none (some (.int .i64 4)) none).run Tryd.prog w = .ok (.slice (some ⟨T, 1, none⟩) 4 6) w := by kernel_rfl
theorem slat6 (T : Nat) (w : World) : (Instr.sliceAt 34 (.pointer (some ⟨T, 1, none⟩)) none (some (.int .i64 6)) none).run Tryd.prog w = .ok (.slice (some ⟨T, 1, none⟩) 6 6) w := by kernel_rfl
theorem slat_any (T n : Nat) (h : n = 0 ∨ n = 2 ∨ n = 4 ∨ n = 6) (w : World) : (Instr.sliceAt 34 (.pointer (some ⟨T, 1, none⟩)) none (some (.int .i64 n)) none).run Tryd.prog w = .ok (.slice (some ⟨T, 1, none⟩) n 6) w := by
  rcases h with rfl | rfl | rfl | rfl
  · exact slat0 T w
  · exact slat2 T w
  · exact slat4 T w
  · exact slat6 T w
theorem WRow.form {w : World} {base : Nat} {v : Value} {ws : List (List UInt8)} (h : WRow w base v ws) (hne : ws ≠ []) : ∃ g cap, v = .slice (some ⟨g, 0, none⟩) ws.length cap := by
  obtain ⟨_, h0 | ⟨g, cap, cur, e, _⟩⟩ := h
  · exact absurd (List.eq_nil_of_length_eq_zero h0.2) hne
  · exact ⟨g, cap, e⟩
theorem join_any {w : World} {base : Nat} {v : Value} {ws : List (List UInt8)} (h : WRow w base v ws) (hne : ws ≠ []) (hn : ws.length ≤ 140737488355328) (hj : (Lib.join ws [32]).length ≤ 1000000) :
    Calls Tryd.prog 32 #[v, .string ⟨#[32]⟩] w fun e w' => e = .returned (.string ⟨(Lib.join ws [32]).toArray⟩) ∧ Bel w w' := by
  obtain ⟨hlen, h0 | ⟨g, cap, cur, rfl, hb, hg, hc, _, hsz, ht⟩⟩ := h
  · exact absurd (List.eq_nil_of_length_eq_zero h0.2) hne
  · have hx : (ws.map fun b => (⟨b.toArray⟩ : ByteArray)).map (·.data.toList) = ws := by simp [Function.comp_def]
    have := Tryd.strings_Join g 0 cap (ws.map fun b => (⟨b.toArray⟩ : ByteArray)) ⟨#[32]⟩ w (fun j x hj => by
      rw [heap_cell hg, ← Array.getElem?_toList, Nat.zero_add]
      have h3 : (ws.map strV)[j]? = some (.string x) := by
        rw [List.getElem?_map] at hj ⊢
        cases hw : ws[j]? with
        | none => rw [hw] at hj; cases hj
        | some b =>
          rw [hw] at hj
          simp only [Option.map_some, Option.some.injEq] at hj
          subst hj
          rfl
      rw [← ht, List.getElem?_take] at h3
      split at h3
      · exact h3
      · cases h3) (heap_lt hg) (by rw [List.length_map]; exact hn) (by rw [List.length_map]; exact hc) (by rw [hx]; exact Nat.le_trans hj (by omega))
    rw [hx, List.length_map] at this
    exact this
theorem letter_ext {k : Int} (h1 : 1 ≤ k) (h2 : k ≤ 6) : (⟨#[32, 77, 76, 81, 67, 75, 90]⟩ : ByteArray).extract k.toNat (k + 1).toNat = ⟨#[letterB k]⟩ := by
  rcases kind_cases h1 h2 with rfl | rfl | rfl | rfl | rfl | rfl <;> rfl

set_option maxHeartbeats 2000000 in
set_option maxRecDepth 100000 in
theorem text_any (l : List Sg) (hl : ∀ s ∈ l, s.v.length = 6) (hn : l.length < 4611686018427387904) (v : Value) (w : World) (h : SegRow w w.heap.size v l) (ht : Tab w) :
    Calls Tryd.prog 13 #[v] w (TextPost w l) := by
  have HGO := Lib.hid (goodAll_any l hl hn v w h)
  have H := Lib.hid h
  have HL := Lib.hid hl
  have HT := Lib.hid ht
  obtain ⟨p, c, rfl, hc, _⟩ := h
  clear hl ht
  go_enter Tryd.func13, Tryd.ntmps13
  cases hg : goodS l with
  | false =>
    rw [hg] at HGO
    have HE : Hid (∀ w', Bel w w' → TextPost w l (.returned (.tuple #[.string ⟨#[]⟩, .int .i64 11])) w') := fun w' hb => ⟨hb, by rw [hg]; rfl⟩
    clear hg
    go_wp2_with (first
      | (go_at_call 15; (with_reducible refine (HGO.out).mono ?_); rintro e w2 ⟨rfl, hb2⟩; have HB2 := Lib.hid hb2; clear hb2))
    go_ret2
    exact HE.out _ HB2.out
  | true =>
    rw [hg] at HGO
    obtain ⟨_, h96, hall, _⟩ := good_parts hg
    have HALL := Lib.hid hall
    have HE : Hid (∀ w' b, b = textS l → Bel w w' → TextPost w l (.returned (.tuple #[strV b, .int .i64 0])) w') := fun w' b e hb => ⟨hb, by rw [hg, e]; rfl⟩
    have HTL := Lib.hid (text_len hg)
    clear hg hall
    go_wp2_with (first
      | (go_at_call 15; (with_reducible refine (HGO.out).mono ?_); rintro e w2 ⟨rfl, hb2⟩; have HB2 := Lib.hid hb2; clear hb2))
    go_loopg [4, 14] l.length (fun gf s4 i wx => ∃ k : Nat, i = .int .i64 k ∧ k ≤ l.length ∧ l.length ≤ k + gf ∧ WRow wx w2.heap.size s4 (wordsS (l.take k)) ∧ (wordsS (l.take k)).length ≤ 8 * k ∧ Bel w2 wx)
    case atStart => exact ⟨0, rfl, Nat.zero_le _, by omega, World.ownsRow_nil _ _ _ _, Nat.le_refl _, Bel.refl _⟩
    case round =>
      obtain ⟨k, rfl, hkl, hkg, hwr, hwl, hb⟩ := hrel
      have HWR := Lib.hid hwr
      have HB := Lib.hid hb
      clear hwr hb
      by_cases hk : k < l.length
      · obtain ⟨gk', rfl⟩ : ∃ g, gk = g + 1 := ⟨gk - 1, by omega⟩
        obtain ⟨s, hs⟩ : ∃ s, l[k]? = some s := ⟨_, List.getElem?_eq_getElem hk⟩
        have h6 := HL.out s (List.mem_of_getElem? hs)
        have hgo := HALL.out s (List.mem_of_getElem? hs)
        obtain ⟨sk, sv, sw⟩ := s
        dsimp only at h6
        obtain ⟨v0, v1, v2, v3, v4, v5, rfl⟩ := six h6
        have hgk := (good_all hgo).1
        dsimp only at hgk
        obtain ⟨hk1, hk2⟩ := hgk
        obtain ⟨bb, oo, cc, he, _, _, q0, q1, q2, q3, q4, q5, q6, q7⟩ := (H.out.bel (HB2.out.trans HB.out)).at hs
        simp only [Value.slice.injEq] at he
        obtain ⟨rfl, _, rfl⟩ := he
        have HGOS := Lib.hid hgo
        clear hgo h6
        have hex := letter_ext hk1 hk2
        have hmx : ∀ n, n ≤ 8 * k + 7 → n + 1 ≤ maxLen := fun n hn => by unfold maxLen; omega
        have hmb : ∀ n, n ≤ 8 * k + 7 → (n + 1) * 16 ≤ 140737488355328 := fun n hn => by omega
        have HMX := Lib.hid hmx
        have HMB := Lib.hid hmb
        clear hmx hmb
        have HTW : Hid (∀ V, Bel w2 V → Tab V) := fun V hb => (HB2.out.trans hb).tab HT.out
        go_upto_region 7 with fail
        have HWD : Hid (Wd w2 (wr.alloc (.cells #[.int .i64 sk, .int .i64 v0, .int .i64 v1, .int .i64 v2, .int .i64 v3, .int .i64 v4, .int .i64 v5, .int .i64 sw] 36)) wr.heap.size #[.int .i64 sk, .int .i64 v0, .int .i64 v1, .int .i64 v2, .int .i64 v3, .int .i64 v4, .int .i64 v5, .int .i64 sw] u4 (wordsS (l.take k))) := ⟨HB.out.alloc _, heap_alloc_new _ _, HWR.out.bel ((Bel.refl wr).alloc _)⟩
        have HBV : Hid (Bel wr (wr.alloc (.cells #[.int .i64 sk, .int .i64 v0, .int .i64 v1, .int .i64 v2, .int .i64 v3, .int .i64 v4, .int .i64 v5, .int .i64 sw] 36))) := (Bel.refl wr).alloc _
        generalize wr.alloc (.cells #[.int .i64 sk, .int .i64 v0, .int .i64 v1, .int .i64 v2, .int .i64 v3, .int .i64 v4, .int .i64 v5, .int .i64 sw] 36) = V at HWD HBV ⊢
        generalize wr.heap.size = T at HWD ⊢
        have y0 := sgb_c0 HWD.out.box
        go_upto_region 8 with (first
          | (at_builtin; (refine wpList_push rfl (.tmp 18) (.tmp 25) 44 rfl w2.heap.size 9 _ 1 16 Tryd.underlying44 infoStr rfl (by decide) u4 (wordsS (l.take k)).length ((wordsS (l.take k)).map strV) rfl HWD.out.row _ _ _ rfl (by simp) rfl (by simp [Value.oneCell']) (HMX.out _ (by omega)) (HMB.out _ (by omega)) HWD.out.bel.size ?_); intro v5' w5 hown5 hg5 _; have HWD5 := Lib.hid (HWD.out.push (b := [letterB sk]) hown5 hg5); clear hown5 hg5))
        have y1 := sgb_c0 HWD5.out.box
        have y7 := sgb_c7 HWD5.out.box
        generalize V.heap.size = Vz
        clear HBV HWD y0 q0 q1 q2 q3 q4 q5 q6 q7 hex
        go_upto_if 29 with fail
        go_cut [4] from 29 to 35 (fun s4 wx => Wd w2 wx T #[.int .i64 sk, .int .i64 v0, .int .i64 v1, .int .i64 v2, .int .i64 v3, .int .i64 v4, .int .i64 v5, .int .i64 sw] s4 (wordsS (l.take k) ++ [letterB sk] :: ((if sk = 5 then [sw] else []).map Lib.itoa)))
        case first =>
          by_cases h5 : sk = 5
          · have h5' : (sk == 5) = true := by simpa using h5
            have hww := (good_all HGOS.out).2.2
            unfold goodW at hww
            dsimp only at hww
            rw [if_pos h5] at hww
            simp only [Bool.and_eq_true, decide_eq_true_eq] at hww
            have HF := fun V ht => Lib.hid (fmt_any sw (by omega) (by omega) V ht)
            have hll : (wordsS (l.take k) ++ [[letterB sk]]).length ≤ 8 * k + 7 := by simp; omega
            have HW : Hid (wordsS (l.take k) ++ [letterB sk] :: ((if sk = 5 then [sw] else []).map Lib.itoa) = wordsS (l.take k) ++ [[letterB sk]] ++ [Lib.itoa sw]) := by unfold Hid; rw [if_pos h5]; simp
            clear h5 hww
            go_wp2_with (first
              | (go_at_call 30; (with_reducible refine ((HF _ (HTW.out _ HWD5.out.bel)).out).mono ?_); rintro e wf ⟨rfl, hbf⟩; have HWF := Lib.hid (HWD5.out.on hbf); clear hbf)
              | (at_builtin; (refine wpList_push rfl (.tmp 30) (.tmp 34) 44 rfl w2.heap.size 9 _ 1 16 Tryd.underlying44 infoStr rfl (by decide) v5' (wordsS (l.take k) ++ [[letterB sk]]).length ((wordsS (l.take k) ++ [[letterB sk]]).map strV) rfl HWF.out.row _ _ _ rfl (by simp) rfl (by simp [Value.oneCell']) (HMX.out _ hll) (HMB.out _ hll) HWF.out.bel.size ?_); intro v6' w6 hown6 hg6 _; have HWD6 := Lib.hid (HWF.out.push (b := Lib.itoa sw) hown6 hg6); clear hown6 hg6))
            go_meet
            rw [HW.out]
            exact HWD6.out
          · have h5' : (sk == 5) = false := by simpa using h5
            have HW : Hid (Wd w2 w5 T #[.int .i64 sk, .int .i64 v0, .int .i64 v1, .int .i64 v2, .int .i64 v3, .int .i64 v4, .int .i64 v5, .int .i64 sw] v5' (wordsS (l.take k) ++ [letterB sk] :: ((if sk = 5 then [sw] else []).map Lib.itoa))) := by unfold Hid; rw [if_neg h5]; exact HWD5.out
            clear h5
            go_wp2
            go_meet
            exact HW.out
        case rest =>
        have HC1 := Lib.hid hcut
        clear hcut HWD5 y1 y7
        obtain ⟨W0, hW0⟩ : ∃ W0, wordsS (l.take k) ++ [letterB sk] :: ((if sk = 5 then [sw] else []).map Lib.itoa) = W0 := ⟨_, rfl⟩
        rw [hW0] at HC1
        have hW0l : W0.length ≤ 8 * k + 2 - (if sk = 5 then 0 else 1) := by rw [← hW0]; simp only [List.length_append, List.length_cons, List.length_map]; split <;> simp <;> omega
        have hcn : countK sk ≤ 6 := (ruleK_facts hk1 hk2).2.2.2.2.2.2.2.2.2.2
        have hc5 : W0.length + countK sk ≤ 8 * k + 7 := by
          rcases kind_cases hk1 hk2 with rfl | rfl | rfl | rfl | rfl | rfl <;> (simp [countK] at hW0l ⊢; omega)
        have hca := cnt_at sk hk1 hk2
        have HW0 := Lib.hid hW0
        clear hW0 hW0l
        have y0 := sgb_c0 HC1.out.box
        have hcs : countK sk = 0 ∨ countK sk = 2 ∨ countK sk = 4 ∨ countK sk = 6 := by rcases kind_cases hk1 hk2 with rfl | rfl | rfl | rfl | rfl | rfl <;> decide
        obtain ⟨n, hn'⟩ : ∃ n, countK sk = n := ⟨_, rfl⟩
        rw [hn'] at hcn hc5 hca hcs
        have hsl := slat_any T n hcs
        clear hcs
        have HN := Lib.hid hn'
        clear hn'
        go_upto_region 10 with fail
        go_cut [41, 42, 43] from 36 to 43 (fun s41 s42 s43 wx => s41 = .slice (some ⟨T, 1, none⟩) n 6 ∧ s42 = .int .i64 n ∧ s43 = .int .i64 0 ∧ Wd w2 wx T #[.int .i64 sk, .int .i64 v0, .int .i64 v1, .int .i64 v2, .int .i64 v3, .int .i64 v4, .int .i64 v5, .int .i64 sw] u4 W0)
        case first =>
          go_region_with (first
            | (go_at_call 31; (with_reducible refine (counts_any _).mono ?_); rintro e w8 ⟨rfl, hb8⟩; have HB8 := Lib.hid hb8; have HC8 := Lib.hid (HC1.out.on (Bel.trans ((Bel.refl _).drew) hb8)); clear hb8; have y8 := sgb_c0 HC8.out.box))
          all_goals
            go_wp2_with fail
            go_meet
            exact ⟨rfl, rfl, rfl, HC8.out⟩
        case rest =>
        obtain ⟨rfl, rfl, rfl, hc2⟩ := hcut
        have HC2 := Lib.hid hc2
        clear hc2 HC1 y0 hca hsl
        have hco : ∀ x ∈ [v0, v1, v2, v3, v4, v5], Co x := fun x hx => inR_iff.1 (goodN_in (good_all HGOS.out).2.1 x hx)
        have HCO := Lib.hid hco
        clear hco
        go_wp2_with fail
        go_loopg [4, 43] n (fun gf s4 i wx => ∃ j : Nat, i = .int .i64 j ∧ j ≤ n ∧ n ≤ j + gf ∧ Wd w2 wx T #[.int .i64 sk, .int .i64 v0, .int .i64 v1, .int .i64 v2, .int .i64 v3, .int .i64 v4, .int .i64 v5, .int .i64 sw] s4 (W0 ++ (([v0, v1, v2, v3, v4, v5].take j).map Lib.itoa)))
        case atStart => exact ⟨0, rfl, Nat.zero_le _, by omega, by simpa using HC2.out⟩
        case round =>
          obtain ⟨j, rfl, hjn, hjg, hwd⟩ := hrel
          have HWD := Lib.hid hwd
          clear hwd
          by_cases hj : j < n
          · obtain ⟨gj, rfl⟩ : ∃ g, gk = g + 1 := ⟨gk - 1, by omega⟩
            obtain ⟨x, hx⟩ : ∃ x, [v0, v1, v2, v3, v4, v5][j]? = some x := ⟨_, List.getElem?_eq_getElem (by simp; omega)⟩
            have hcx := HCO.out x (List.mem_of_getElem? hx)
            unfold Co at hcx
            have hxc : wr.cell? ⟨T, 1 + j, none⟩ = some (.int .i64 x) := by
              rw [heap_cell HWD.out.box]
              have hj6 : j = 0 ∨ j = 1 ∨ j = 2 ∨ j = 3 ∨ j = 4 ∨ j = 5 := by omega
              rcases hj6 with rfl | rfl | rfl | rfl | rfl | rfl <;> (simp at hx; subst hx; rfl)
            have HF := fun V ht => Lib.hid (fmt_any x (by omega) (by omega) V ht)
            have hll : (W0 ++ (([v0, v1, v2, v3, v4, v5].take j).map Lib.itoa)).length ≤ 8 * k + 7 := by rw [List.length_append, List.length_map, List.length_take]; simp only [List.length_cons, List.length_nil]; omega
            have HTK : Hid (W0 ++ (([v0, v1, v2, v3, v4, v5].take (j + 1)).map Lib.itoa) = W0 ++ (([v0, v1, v2, v3, v4, v5].take j).map Lib.itoa) ++ [Lib.itoa x]) := by
              unfold Hid
              rw [List.take_add_one, hx]
              simp
            clear hx
            go_wp2_with (first
              | (go_at_call 30; (with_reducible refine ((HF _ (HTW.out _ HWD.out.bel)).out).mono ?_); rintro e wf ⟨rfl, hbf⟩; have HWF := Lib.hid (HWD.out.on hbf); clear hbf)
              | (at_builtin; (refine wpList_push rfl (.tmp 47) (.tmp 50) 44 rfl w2.heap.size 9 _ 1 16 Tryd.underlying44 infoStr rfl (by decide) u4 (W0 ++ (([v0, v1, v2, v3, v4, v5].take j).map Lib.itoa)).length ((W0 ++ (([v0, v1, v2, v3, v4, v5].take j).map Lib.itoa)).map strV) rfl HWF.out.row _ _ _ rfl (by simp) rfl (by simp [Value.oneCell']) (HMX.out _ hll) (HMB.out _ hll) HWF.out.bel.size ?_); intro v6' w6 hown6 hg6 _; have HWD6 := Lib.hid (HWF.out.push (b := Lib.itoa x) hown6 hg6); clear hown6 hg6))
            go_roundg gj
            case measure => omega
            case rel => exact ⟨j + 1, rfl, by omega, by omega, by rw [HTK.out]; exact HWD6.out⟩
          · obtain rfl : j = n := by omega
            have HNW : Hid (wordsS (l.take (k + 1)) = W0 ++ (([v0, v1, v2, v3, v4, v5].take j).map Lib.itoa)) := by
              unfold Hid
              rw [← HW0.out, ← HN.out, List.take_add_one, hs]
              unfold wordsS
              rw [List.flatMap_append]
              simp [wordsOf, numsOf]
            have HWR2 : Hid (WRow wr w2.heap.size u4 (wordsS (l.take (k + 1)))) := by unfold Hid; rw [HNW.out]; exact HWD.out.row
            have hwl2 : (wordsS (l.take (k + 1))).length ≤ 8 * (k + 1) := by
              rw [HNW.out, List.length_append, List.length_map, List.length_take]
              simp only [List.length_cons, List.length_nil]
              omega
            go_wp2_with fail
            go_roundg gk'
            case measure => omega
            case rel => exact ⟨k + 1, rfl, by omega, by omega, HWR2.out, hwl2, HWD.out.bel⟩
      · obtain rfl : k = l.length := by omega
        rw [List.take_length] at HWR hwl
        have hne : wordsS l ≠ [] := by
          cases l with
          | nil => simp [headOk] at *
          | cons s r => simp [wordsS, wordsOf]
        have hjo := join_any HWR.out hne (by omega) HTL.out
        obtain ⟨g, cap, rfl⟩ := WRow.form HWR.out hne
        have HJO := Lib.hid hjo
        clear hjo hne
        go_wp2_with (first
          | (go_at_call 32; (with_reducible refine (HJO.out).mono ?_); rintro e w6 ⟨rfl, hb6⟩; have HB6 := Lib.hid hb6; clear hb6))
        go_ret2
        exact HE.out _ _ rfl ((HB2.out.trans HB.out).trans HB6.out)
end Go.Proofs.YtefajplbgmikdaaDoor
