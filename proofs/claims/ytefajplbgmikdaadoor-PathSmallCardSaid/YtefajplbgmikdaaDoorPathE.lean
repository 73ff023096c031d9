/-
  The walk of the reader's letter.
-/
import Derived.Test.YtefajplbgmikdaaDoorPathD
namespace Go.Proofs.YtefajplbgmikdaaDoor
open Go.RowKit

theorem find_row {c : Nat} {x : Rl} (h : ruleOf c = some x) : findS c = (x, smallC c, true) := by unfold findS; rw [h]
theorem find_not {c : Nat} (h : ruleOf c = none) : findS c = (⟨0, 0, 0⟩, false, false) := by unfold findS; rw [h]
theorem rule_mem {c : Nat} {x : Rl} (h : ruleOf c = some x) : x ∈ rulesL := List.mem_of_find?_eq_some h
theorem rule_small {x : Rl} (h : x ∈ rulesL) : x.count ≤ 6 ∧ x.name < 256 ∧ x.kind ≤ 6 := by
  have : ∀ x ∈ rulesL, x.count ≤ 6 ∧ x.name < 256 ∧ x.kind ≤ 6 := by decide
  exact this x h
/-- The row of parts: how it looks. -/
theorem prow_none {w : World} {r : Nat} {pv : Value} (h : PRow w r pv []) : ∃ p c, pv = .slice p 0 c := by
  obtain ⟨qs, _, ho, _⟩ := h
  rcases ho.2 with ⟨rfl, _⟩ | ⟨g, cap, cur, rfl, _⟩
  · exact ⟨none, 0, rfl⟩
  · exact ⟨_, cap, rfl⟩
theorem prow_some {w : World} {r : Nat} {pv : Value} {ps : List Part} {x : Part} (h : PRow w r pv (ps ++ [x])) : ∃ g cap, pv = .slice (some ⟨g, 0, none⟩) (ps.length + 1) cap ∧ w.cell? ⟨g, ps.length * 6 + 2, none⟩ = some (.int .i64 x.r.kind) := by
  obtain ⟨qs, hq, ho, _⟩ := h
  rw [List.length_append] at ho
  obtain ⟨g, cap, rfl, _, _⟩ := ho.form (by simp)
  refine ⟨g, cap, rfl, ?_⟩
  have hql : qs.length = ps.length + 1 := by have := congrArg List.length hq; simpa using this
  obtain ⟨q1, q2, rfl⟩ : ∃ q1 q2, qs = q1 ++ [q2] := ⟨qs.dropLast, qs.getLast (by intro e; rw [e] at hql; simp at hql), (List.dropLast_concat_getLast _).symm⟩
  simp only [List.map_append, List.map_cons, List.map_nil] at hq
  obtain ⟨e1, e2⟩ := List.append_inj' hq rfl
  have hx : q2.1 = x := by simpa using e2
  have hl1 : q1.length = ps.length := by simpa using hql
  have hlen : ∀ l : List (Part × Value), (partsC l).length = l.length * 6 := by
    intro l
    induction l with
    | nil => rfl
    | cons a l ih => simp only [partsC, List.flatMap_cons, List.length_append, List.length_cons] at ih ⊢; rw [ih]; simp [partC]; omega
  have := World.ownsRow.cellAt ho (ps.length * 6 + 2) (by simp; omega)
  rw [this, partsC_snoc, List.getElem?_append_right (by rw [hlen]; omega), hlen, hl1, show ps.length * 6 + 2 - ps.length * 6 = 2 by omega, ← hx]
  rfl
def letterBad (c : Nat) (ps : List Part) : Prop := ruleOf c = none ∨ ∃ x, ruleOf c = some x ∧ ((ps = [] ∧ x.kind ≠ 1) ∨ (x.kind = 6 ∧ lastKind ps = 6))
theorem letter_bad {c : Nat} {ps : List Part} (h : letterBad c ps) (en pl : Int) (more : Bool) (l : List Tok) : letterS en c pl more l ps = .error pl := by
  unfold letterS
  rcases h with h | ⟨x, h, hb⟩
  · rw [h]
  · rw [h]; simp only; rw [if_pos hb]
theorem lastKind_snoc (ps : List Part) (x : Part) : lastKind (ps ++ [x]) = x.r.kind := by simp [lastKind]

theorem St.rd {w : World} {r : Nat} {lv pv : Value} {en : Int} {l : List Tok} {ps : List Part} (h : St w r lv en pv l ps) : Rd w r lv en pv (.pointer none) := h.1
theorem st_bel {w w' : World} {r : Nat} {lv pv : Value} {en : Int} {l : List Tok} {ps : List Part} (h : St w r lv en pv l ps) (hb : Bel w w') : St w' r lv en pv l ps := by
  obtain ⟨h1, h2, h3⟩ := h
  exact ⟨hb.heap h1, h2.below (Below.mono hb (by have := heap_lt h1; omega)), h3.keep fun k hk _ => Below.block hb k hk⟩
theorem st_facts {w : World} {r : Nat} {lv pv : Value} {en : Int} {l : List Tok} {ps : List Part} (h : St w r lv en pv l ps) :
    (∀ o, (w.alloc o).cell? ⟨r, 2, none⟩ = some pv) ∧ ∃ p c, pv = .slice p ps.length c := by
  refine ⟨fun o => by rw [heap_cell (heap_push_of h.1 o)]; rfl, ?_⟩
  obtain ⟨qs, _, ho, _⟩ := h.2.2
  rcases ho.2 with ⟨rfl, h0⟩ | ⟨g, cap, cur, rfl, _⟩
  · exact ⟨none, 0, by rw [h0]⟩
  · exact ⟨_, cap, rfl⟩
theorem bad_post {w w1 w2 : World} {r : Nat} {lv pv : Value} {en a : Int} {l : List Tok} {ps : List Part} (h : St w r lv en pv l ps) (hb : Bel w w1) (h2 : Below r w1 w2) (hk : KeepBut r w1 w2) (hbad : Bad w2 r lv en pv a) :
    OncePost w r en (.error a) (.returned (.tuple #[])) w2 :=
  ⟨rfl, (Below.mono hb (by have := heap_lt h.1; omega)).trans h2, Kp.trans hb.kp (hk.kp ⟨_, _, hb.heap h.1⟩), _, _, hbad⟩
set_option maxHeartbeats 2000000 in
set_option maxRecDepth 100000 in
theorem letter_fails (c : Nat) (hc : c < 256) (more : Bool) (pl en : Int) (r : Nat) (lv pv : Value) (l : List Tok) (ps : List Part) (hps : ps.length ≤ 1000000000) (w : World) (hr : Rul w) (hst : St w r lv en pv l ps) (hbad : letterBad c ps) :
    Calls Tryd.prog 80 #[.pointer (some ⟨r, 0, none⟩), .int .u8 c, .int .i64 pl, .bool more] w (OncePost w r en (letterS en c pl more l ps)) := by
  rw [letter_bad hbad]
  have HST := Lib.hid hst
  have hfd := find_any c w hc hr
  clear hr hst
  rcases hbad with hb | ⟨x, hx, hb⟩
  · have hf := find_not hb
    unfold FindPost at hfd
    rw [hf] at hfd
    go_enter Tryd.func80, Tryd.ntmps80
    go_wp2_with fail
    refine hfd.mono ?_
    rintro e w1 ⟨rfl, hb1⟩
    have HS1 := Lib.hid (st_bel HST.out hb1)
    have HB1 := Lib.hid hb1
    obtain ⟨q2, hpv⟩ := st_facts HS1.out
    obtain ⟨pp, pc, rfl⟩ := hpv
    clear hb1
    unfold rlV
    go_wp2_with (first
      | (go_at_call 79; (with_reducible refine (fail_any r lv _ (.pointer none) en _ _ (st_bel HS1.out ((Bel.refl _).alloc _)).rd).mono ?_); rintro e w2 ⟨rfl, hb2, hk2, hbad⟩; have HX := Lib.hid (bad_post HST.out (Bel.trans HB1.out ((Bel.refl _).alloc _)) hb2 hk2 hbad); clear hb2 hk2 hbad))
    exact bodyPost_ret (v := .tuple #[]) (by simp [results, Tryd.results80, go_sem]) rfl HX.out
  · have hf := find_row hx
    unfold FindPost at hfd
    rw [hf] at hfd
    have hsm := rule_small (rule_mem hx)
    obtain ⟨nm, ct, kn⟩ := x
    dsimp only at hsm hb
    obtain ⟨hs1, hs2, hs3⟩ := hsm
    have HB := Lib.hid hb
    clear hb
    go_enter Tryd.func80, Tryd.ntmps80
    go_wp2_with fail
    refine hfd.mono ?_
    rintro e w1 ⟨rfl, hb1⟩
    have HS1 := Lib.hid (st_bel HST.out hb1)
    have HB1 := Lib.hid hb1
    clear hb1
    rcases HB.out with ⟨rfl, hk⟩ | ⟨rfl, hk⟩
    · obtain ⟨q2, pp, pc, rfl⟩ := st_facts HS1.out
      have hk1 : ((kn : Int) != 1) = true := by simp; omega
      unfold rlV
      go_wp2_with (first
      | (go_at_call 79; (with_reducible refine (fail_any r lv _ (.pointer none) en _ _ (st_bel HS1.out ((Bel.refl _).alloc _)).rd).mono ?_); rintro e w2 ⟨rfl, hb2, hk2, hbad⟩; have HX := Lib.hid (bad_post HST.out (Bel.trans HB1.out ((Bel.refl _).alloc _)) hb2 hk2 hbad); clear hb2 hk2 hbad))
      exact bodyPost_ret (v := .tuple #[]) (by simp [results, Tryd.results80, go_sem]) rfl HX.out
    · obtain ⟨ini, z, rfl⟩ : ∃ ini z, ps = ini ++ [z] := by
        have hne : ps ≠ [] := fun e => by rw [e] at hk; simp [lastKind] at hk
        exact ⟨ps.dropLast, ps.getLast hne, (List.dropLast_concat_getLast hne).symm⟩
      have hil : ini.length ≤ 1000000000 := by simp at hps; omega
      rw [lastKind_snoc] at hk
      have hq2 := (st_facts HS1.out).1
      obtain ⟨g, cap, rfl, hzk⟩ := prow_some HS1.out.2.2
      have hzk2 : ∀ o, (w1.alloc o).cell? ⟨g, ini.length * 6 + 2, none⟩ = some (.int .i64 6) := fun o => by
        have := ((Bel.refl w1).alloc o).cell hzk
        rwa [hk] at this
      clear hzk hk
      unfold rlV
      go_wp2_with (first
      | (go_at_call 79; (with_reducible refine (fail_any r lv _ (.pointer none) en _ _ (st_bel HS1.out ((Bel.refl _).alloc _)).rd).mono ?_); rintro e w2 ⟨rfl, hb2, hk2, hbad⟩; have HX := Lib.hid (bad_post HST.out (Bel.trans HB1.out ((Bel.refl _).alloc _)) hb2 hk2 hbad); clear hb2 hk2 hbad))
      exact bodyPost_ret (v := .tuple #[]) (by simp [results, Tryd.results80, go_sem]) rfl HX.out
end Go.Proofs.YtefajplbgmikdaaDoor
