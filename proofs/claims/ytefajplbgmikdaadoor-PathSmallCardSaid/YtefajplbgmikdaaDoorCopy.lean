/-
  A row of parts, copied by an append to an empty row.
-/
import Derived.Test.YtefajplbgmikdaaDoorLawD
namespace Go.Proofs.YtefajplbgmikdaaDoor
open Go.RowKit

theorem flat_inv {α β : Type} {f : α → List β} {n : Nat} (hn : 0 < n) : ∀ {l : List α} {j : Nat} {v : β}, (∀ y ∈ l, (f y).length = n) → (l.flatMap f)[j]? = some v → ∃ x, l[j / n]? = some x ∧ (f x)[j % n]? = some v
  | [], j, v, _, h => by simp at h
  | y :: l, j, v, hf, h => by
    have hy := hf y (by simp)
    rw [List.flatMap_cons] at h
    by_cases hj : j < n
    · rw [List.getElem?_append_left (by omega)] at h
      rw [Nat.div_eq_of_lt hj, Nat.mod_eq_of_lt hj]
      exact ⟨y, rfl, h⟩
    · rw [List.getElem?_append_right (by omega), hy] at h
      obtain ⟨x, h1, h2⟩ := flat_inv hn (fun z hz => hf z (by simp [hz])) h
      have e : j = (j - n) + n := by omega
      rw [e, Nat.add_div_right _ hn, Nat.add_mod_right]
      exact ⟨x, by simpa using h1, h2⟩
theorem run_copy_none {P : Program} (w : World) (t ty e : TypeId) (i : TypeInfo) (ht : P.underlying t = some (.slice e)) (hi : P.info? e = some i) (g c : Nat) :
    (Builtin.append_ #[t, t] ty #[.slice (some ⟨g, 0, none⟩) 0 0, .slice none 0 c]).run P w = .ok (.slice (some ⟨g, 0, none⟩) 0 0) w := by
  simp [Builtin.append_, run_underlying ht, sizeOf, typeInfo, hi, Builtin.lenOf, Builtin.firstCells, storeCells]
theorem sgC_one {s : Sg} {u : Value} (h : u ∈ sgC s) : u.oneCell' = true := by
  unfold sgC at h
  simp only [List.mem_cons, List.mem_append, List.mem_map, List.not_mem_nil, or_false] at h
  rcases h with (rfl | ⟨x, _, rfl⟩) | rfl <;> rfl
theorem len_segs : ∀ (l : List Sg), (∀ s ∈ l, s.v.length = 6) → (l.flatMap sgC).length = l.length * 8
  | [], _ => rfl
  | s :: r, h => by
    rw [List.flatMap_cons, List.length_append, len_segs r (fun x hx => h x (by simp [hx])), List.length_cons]
    simp [sgC, h s (by simp)]
    omega
theorem run_copy_segs (w : World) (ty : TypeId) (g : Nat) (hg : w.heap[g]? = some (.cells #[] 36 (0, 0))) (p : Option Addr) (c N : Nat) (l : List Sg) (h6 : ∀ s ∈ l, s.v.length = 6) (hR : SegRow w N (.slice p l.length c) l) (hl : l.length ≤ 1000000) :
    ∃ p' c' w', (Builtin.append_ #[22, 22] ty #[.slice (some ⟨g, 0, none⟩) 0 0, .slice p l.length c]).run Tryd.prog w = .ok (.slice p' l.length c') w' ∧ SegRow w' w'.heap.size (.slice p' l.length c') l ∧ Below g w w' := by
  obtain ⟨i0, hi, hz0, hz1, hz2⟩ := info_parts infoSeg
  have hgl : g < w.heap.size := (Array.getElem?_eq_some_iff.1 hg).1
  have hown : w.ownsRow g 36 8 (.slice (some ⟨g, 0, none⟩) 0 0) 0 [] := ⟨rfl, .inr ⟨g, 0, #[], rfl, Nat.le_refl _, hg, Nat.le_refl _, by decide, rfl, rfl⟩⟩
  obtain ⟨p0, c0, he, hle, hcells⟩ := hR
  simp only [Value.slice.injEq, true_and] at he
  obtain ⟨rfl, rfl⟩ := he
  cases p with
  | none =>
    have hx : l = [] := by
      rcases hcells with h | ⟨b, o, h, _⟩
      · exact h
      · cases h
    subst hx
    exact ⟨_, _, w, run_copy_none (P := Tryd.prog) w _ ty _ i0 Tryd.underlying22 hi g c, ⟨_, _, rfl, Nat.le_refl _, .inl rfl⟩, Below.refl _ _⟩
  | some a =>
    have hc1 : ∀ j u, (l.flatMap sgC)[j]? = some u → w.cell? (a.add j) = some u := fun j u hj => by
      obtain ⟨s, h1, h2⟩ := flat_inv (n := 8) (by decide) (fun s hs => by simp [sgC, h6 s hs]) hj
      rcases hcells with h | ⟨b, o, h, _, hc⟩
      · subst h; simp at hj
      · obtain rfl : a = ⟨b, o, none⟩ := Option.some.inj h
        have := hc _ s h1 _ u h2
        rw [show o + j / 8 * 8 + j % 8 = o + j by omega] at this
        rw [Addr.add_lit]
        exact this
    obtain ⟨v', w', hr, hown', hgrow, _⟩ := run_append_own (P := Tryd.prog) w g 22 ty 36 i0 _ 8 64 Tryd.underlying22 hi hz0 hz1 hz2 rfl (by decide) (.slice (some ⟨g, 0, none⟩) 0 0) 0 [] hown a l.length c (l.flatMap sgC) (len_segs l h6) hc1 (fun u hu => by obtain ⟨s, _, hs⟩ := List.mem_flatMap.1 hu; exact sgC_one hs) (by unfold maxLen; omega) (by omega) (by omega)
    rw [List.nil_append, Nat.zero_add] at hown'
    have hs' : SRow w' g v' l := hown'
    have hrow := SRow.read hs' h6
    obtain ⟨p', c', rfl, _⟩ := hs'.form
    exact ⟨p', c', w', hr, hrow, (Below.refl _ _).grown hgrow (by omega) (fun k hk => by simp [Value.ownBlock] at hk; omega)⟩
theorem wpList_copy_segs {w : World} {ops : Array Oper} {rest : List Oper} {o : Oper} {a : Act} {Q : Exit → Act → World → Prop} (hgd : o.guard = none) (s x : Operand)
    (ho : o.op = .call { callee := .builtin .append, args := #[s, x], argTypes := #[22, 22] })
    (g : Nat) (hs : a.eval s = .slice (some ⟨g, 0, none⟩) 0 0) (hg : w.heap[g]? = some (.cells #[] 36 (0, 0))) (p : Option Addr) (c N : Nat) (l : List Sg) (h6 : ∀ s ∈ l, s.v.length = 6) (hx : a.eval x = .slice p l.length c) (hR : SegRow w N (.slice p l.length c) l) (hl : l.length ≤ 1000000)
    (h : ∀ p' c' w', SegRow w' w'.heap.size (.slice p' l.length c') l → Below g w w' → wpList Tryd.prog ops Q rest (a.put o.dst (.slice p' l.length c')) w') : wpList Tryd.prog ops Q (o :: rest) a w := by
  refine wpList_plain hgd fun K hK' => ?_
  obtain ⟨p', c', w', hr, h3, h4⟩ := run_copy_segs w o.type g hg p c N l h6 hR hl
  unfold Oper.wp execOp
  simp only [ho, resolve, invoke, builtin, Sem.run_bind, Sem.run_pure, Result.andThen_ok, List.map_toArray, List.map_cons, List.map_nil, hs, hx, hr]
  exact hK' _ _ (h p' c' w' h3 h4)
end Go.Proofs.YtefajplbgmikdaaDoor
