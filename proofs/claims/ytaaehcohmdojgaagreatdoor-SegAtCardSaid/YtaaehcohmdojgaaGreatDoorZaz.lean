/-
  The points told, by the program and by the document.
-/
import Derived.Test.YtaaehcohmdojgaaGreatDoorZay
import Derived.Test.YtaaehcohmdojgaaGreatDoorZap
namespace Go.Proofs.YtaaehcohmdojgaaGreatDoor.Sg

/-- A list of so few that it has two members at most. -/
theorem nodup_two {l : List Pq} {p q : Pq} (hn : l.Nodup) (hm : ∀ x, x ∈ l ↔ x = p ∨ x = q) : (p = q ∧ l = [p]) ∨ (p ≠ q ∧ (l = [p, q] ∨ l = [q, p])) := by
  match l, hn, hm with
  | [], _, hm => exact absurd ((hm p).2 (.inl rfl)) (by simp)
  | [x], _, hm =>
    have h1 := (hm p).2 (.inl rfl)
    have h2 := (hm q).2 (.inr rfl)
    simp only [List.mem_singleton] at h1 h2
    subst h1
    exact .inl ⟨h2.symm, rfl⟩
  | [x, y], hn, hm =>
    have hxy : x ≠ y := fun e => by subst e; simp at hn
    have h1 := (hm x).1 (by simp)
    have h2 := (hm y).1 (by simp)
    rcases h1 with rfl | rfl <;> rcases h2 with rfl | rfl
    · exact absurd rfl hxy
    · exact .inr ⟨hxy, .inl rfl⟩
    · exact .inr ⟨Ne.symm hxy, .inr rfl⟩
    · exact absurd rfl hxy
  | x :: y :: z :: r, hn, hm =>
    have h1 := (hm x).1 (by simp)
    have h2 := (hm y).1 (by simp)
    have h3 := (hm z).1 (by simp)
    simp only [List.nodup_cons, List.mem_cons, not_or] at hn
    exfalso
    obtain ⟨⟨n1, n2, -⟩, ⟨n3, -⟩, -⟩ := hn
    rcases h1 with rfl | rfl <;> rcases h2 with rfl | rfl <;> rcases h3 with rfl | rfl <;> first | exact n1 rfl | exact n2 rfl | exact n3 rfl
section
variable (K : Pq → Prop) [DecidablePred K] (a : Pq)
/-- One more, if it belongs there and is not there: at the end, or ahead of a single one that is farther. -/
def stepS (l : List Pq) (x : Pq) : List Pq := if K x ∧ x ∉ l then l ++ [x] else l
def stepR (l : List Pq) (x : Pq) : List Pq := if K x ∧ x ∉ l then (match l with | [o] => if farP x a < farP o a then [x, o] else [o, x] | l => l ++ [x]) else l
def nearerL (l : List Pq) : List Pq := match l with
  | [p, q] => if farP q a < farP p a then [q, p] else [p, q]
  | l => l
theorem stepS_spec {l : List Pq} {x : Pq} (hn : l.Nodup) : (stepS K l x).Nodup ∧ ∀ y, y ∈ stepS K l x ↔ y ∈ l ∨ (y = x ∧ K x) := by
  unfold stepS
  split
  · rename_i h
    refine ⟨?_, fun y => ?_⟩
    · rw [List.nodup_append]
      refine ⟨hn, by simp, fun u hu v hv => ?_⟩
      simp only [List.mem_singleton] at hv
      subst hv
      exact fun e => h.2 (e ▸ hu)
    · simp only [List.mem_append, List.mem_singleton]
      exact ⟨fun hy => hy.imp id fun e => ⟨e, h.1⟩, fun hy => hy.imp id fun e => e.1⟩
  · rename_i h
    refine ⟨hn, fun y => ⟨.inl, fun hy => hy.elim id fun e => ?_⟩⟩
    obtain ⟨rfl, hk⟩ := e
    exact Decidable.byContradiction fun hne => h ⟨hk, hne⟩
end
section
variable {a b c d : Pq}
def alongL (a b c d : Pq) : List Pq := nearerL a (stepS (Com a b c d) (stepS (Com a b c d) (stepS (Com a b c d) (stepS (Com a b c d) [] a) b) c) d)
def refAlong (a b c d : Pq) : List Pq := stepR (Com a b c d) a (stepR (Com a b c d) a (stepR (Com a b c d) a (stepR (Com a b c d) a [] a) b) c) d
theorem ends_list (hk : crs (sbP b a) (sbP d c) = 0) {l : List Pq} (hn : l.Nodup) (hm : ∀ y, y ∈ l ↔ (y = a ∨ y = b ∨ y = c ∨ y = d) ∧ Com a b c d y) : (l = [] ∧ ∀ x, ¬ Com a b c d x) ∨ ∃ p q, (∀ x, Com a b c d x ↔ OnP x p q) ∧ ((p = q ∧ l = [p]) ∨ (p ≠ q ∧ farP p a < farP q a ∧ (l = [p, q] ∨ l = [q, p]))) := by
  rcases par_ends hk with h | ⟨p, q, hp, hq, hc, hf, hin⟩
  · refine .inl ⟨?_, h⟩
    match l, hm with
    | [], _ => rfl
    | x :: r, hm => exact absurd ((hm x).1 (by simp)).2 (h x)
  · refine .inr ⟨p, q, hc, ?_⟩
    have h2 := nodup_two hn (p := p) (q := q) fun x => by
      rw [hm]
      exact ⟨fun h => hin x h.1 h.2, fun h => by
        rcases h with rfl | rfl
        · exact ⟨hp, (hc _).2 (on_left _ _)⟩
        · exact ⟨hq, (hc _).2 (on_right _ _)⟩⟩
    rcases h2 with h2 | ⟨h2, h3⟩
    · exact .inl h2
    · exact .inr ⟨h2, hf.resolve_left h2, h3⟩
theorem along_meets (hk : crs (sbP b a) (sbP d c) = 0) : Meets a b c d (alongL a b c d) := by
  have h1 := stepS_spec (Com a b c d) (l := []) (x := a) (by simp)
  have h2 := stepS_spec (Com a b c d) (x := b) h1.1
  have h3 := stepS_spec (Com a b c d) (x := c) h2.1
  have h4 := stepS_spec (Com a b c d) (x := d) h3.1
  have key := ends_list hk h4.1 (fun y => by
    rw [h4.2, h3.2, h2.2, h1.2]
    simp only [List.not_mem_nil, false_or]
    constructor
    · rintro (((⟨rfl, h⟩ | ⟨rfl, h⟩) | ⟨rfl, h⟩) | ⟨rfl, h⟩)
      · exact ⟨.inl rfl, h⟩
      · exact ⟨.inr (.inl rfl), h⟩
      · exact ⟨.inr (.inr (.inl rfl)), h⟩
      · exact ⟨.inr (.inr (.inr rfl)), h⟩
    · rintro ⟨rfl | rfl | rfl | rfl, h⟩
      · exact .inl (.inl (.inl ⟨rfl, h⟩))
      · exact .inl (.inl (.inr ⟨rfl, h⟩))
      · exact .inl (.inr ⟨rfl, h⟩)
      · exact .inr ⟨rfl, h⟩)
  unfold alongL
  rcases key with ⟨he, h⟩ | ⟨p, q, hc, ⟨rfl, he⟩ | ⟨hne, hf, he | he⟩⟩ <;> rw [he]
  · exact .inl ⟨rfl, h⟩
  · exact .inr (.inl ⟨p, rfl, fun x => by rw [hc, on_point]⟩)
  · refine .inr (.inr ⟨p, q, ?_, hne, hf, hc⟩)
    show (if farP q a < farP p a then [q, p] else [p, q]) = [p, q]
    rw [if_neg (by grind)]
  · refine .inr (.inr ⟨p, q, ?_, hne, hf, hc⟩)
    show (if farP p a < farP q a then [p, q] else [q, p]) = [p, q]
    rw [if_pos hf]
/-- Where the lines meet. -/
def cutT (a b c d : Pq) : Rat := crs (sbP c a) (sbP d c) / crs (sbP b a) (sbP d c)
def cutS (a b c d : Pq) : Rat := crs (sbP c a) (sbP b a) / crs (sbP b a) (sbP d c)
def mixP (a b : Pq) (t : Rat) : Pq := adP a t (sbP b a)
theorem cut_com (hk : crs (sbP b a) (sbP d c) ≠ 0) : mixP a b (cutT a b c d) = mixP c d (cutS a b c d) ∧ ∀ x, Com a b c d x ↔ (0 ≤ cutT a b c d ∧ cutT a b c d ≤ 1 ∧ 0 ≤ cutS a b c d ∧ cutS a b c d ≤ 1) ∧ x = mixP a b (cutT a b c d) := by
  have ht : cutT a b c d * crs (sbP b a) (sbP d c) = crs (sbP c a) (sbP d c) := Rat.div_mul_cancel hk
  have hs : cutS a b c d * crs (sbP b a) (sbP d c) = crs (sbP c a) (sbP b a) := Rat.div_mul_cancel hk
  obtain ⟨t, htt⟩ : ∃ t, cutT a b c d = t := ⟨_, rfl⟩
  obtain ⟨s, hss⟩ : ∃ s, cutS a b c d = s := ⟨_, rfl⟩
  rw [htt] at ht ⊢
  rw [hss] at hs ⊢
  obtain ⟨a1, a2⟩ := a
  obtain ⟨b1, b2⟩ := b
  obtain ⟨c1, c2⟩ := c
  obtain ⟨d1, d2⟩ := d
  unfold crs sbP at hk ht hs
  dsimp only at hk ht hs
  have hmeet : mixP (a1, a2) (b1, b2) t = mixP (c1, c2) (d1, d2) s := by
    unfold mixP adP sbP
    dsimp only
    refine Prod.ext ?_ ?_ <;> dsimp only <;> refine mul_cancel hk ?_ <;> grind
  refine ⟨hmeet, fun x => ?_⟩
  constructor
  · rintro ⟨h1, h2⟩
    obtain ⟨p, p0, p1, rfl⟩ := on_iff.1 h1
    obtain ⟨q, q0, q1, h3⟩ := on_iff.1 h2
    unfold adP sbP at h3
    simp only [Prod.mk.injEq] at h3
    have e1 : p = t := mul_cancel hk (by grind)
    have e2 : q = s := mul_cancel hk (by grind)
    subst e1 e2
    exact ⟨⟨p0, p1, q0, q1⟩, rfl⟩
  · rintro ⟨⟨t0, t1, s0, s1⟩, rfl⟩
    exact ⟨on_iff.2 ⟨t, t0, t1, rfl⟩, by rw [hmeet]; exact on_iff.2 ⟨s, s0, s1, rfl⟩⟩
def meetL (a b c d : Pq) : List Pq := if crs (sbP b a) (sbP d c) = 0 then alongL a b c d else if cutT a b c d < 0 ∨ cutS a b c d < 0 ∨ 1 < cutT a b c d ∨ 1 < cutS a b c d then [] else [mixP a b (cutT a b c d)]
def refMeet (a b c d : Pq) : List Pq := if crs (sbP b a) (sbP d c) ≠ 0 then (if Com a b c d (mixP a b (cutT a b c d)) then [mixP a b (cutT a b c d)] else []) else refAlong a b c d
theorem meet_meets (a b c d : Pq) : Meets a b c d (meetL a b c d) := by
  unfold meetL
  split
  · rename_i hk; exact along_meets hk
  · rename_i hk
    obtain ⟨-, h⟩ := cut_com hk
    split
    · exact .inl ⟨rfl, fun x hx => by have := (h x).1 hx; grind⟩
    · refine .inr (.inl ⟨_, rfl, fun x => (h x).trans ⟨fun h => h.2, fun e => ⟨by grind, e⟩⟩⟩)
end
end Go.Proofs.YtaaehcohmdojgaaGreatDoor.Sg

/-
  What of them is told by other words.
-/
namespace Go.Proofs.YtaaehcohmdojgaaGreatDoor.Sg

section
variable {a b c d : Pq}
theorem com_swap2 (x : Pq) : Com a b c d x ↔ Com a b d c x := by
  unfold Com
  rw [on_swap (x := x) (a := c)]
theorem com_swap1 (x : Pq) : Com a b c d x ↔ Com b a c d x := by
  unfold Com
  rw [on_swap (x := x) (a := a)]
theorem com_both (x : Pq) : Com a b c d x ↔ Com c d a b x := And.comm
theorem meet_swap2 : meetL a b d c = meetL a b c d := meets_one (meet_meets a b d c) (meet_meets a b c d) fun x => (com_swap2 x).symm
theorem len_both : (meetL c d a b).length = (meetL a b c d).length := meets_len (meet_meets c d a b) (meet_meets a b c d) fun x => (com_both x).symm
theorem len_swap1 : (meetL b a c d).length = (meetL a b c d).length := meets_len (meet_meets b a c d) (meet_meets a b c d) fun x => (com_swap1 x).symm
theorem mix_on {t : Rat} (h0 : 0 ≤ t) (h1 : t ≤ 1) : OnP (mixP a b t) a b := on_iff.2 ⟨t, h0, h1, rfl⟩
/-- Ends on one side alone: nothing in common. -/
theorem apart_meet (h : 0 < crs (sbP b a) (sbP c a) * crs (sbP b a) (sbP d a)) : meetL a b c d = [] := by
  rcases meet_meets a b c d with ⟨h1, -⟩ | ⟨p, _, hp⟩ | ⟨p, q, _, -, -, hp⟩
  · exact h1
  all_goals
    exfalso
    have hc : Com a b c d p := (hp p).2 (by first | rfl | exact on_left _ _)
    obtain ⟨s, s0, s1, hs⟩ := on_iff.1 hc.2
    have hz := hc.1.1
    obtain ⟨f, hf⟩ : ∃ f, crs (sbP b a) (sbP c a) = f := ⟨_, rfl⟩
    obtain ⟨g, hg⟩ : ∃ g, crs (sbP b a) (sbP d a) = g := ⟨_, rfl⟩
    rw [hf, hg] at h
    have e : (1 - s) * f + s * g = 0 := by
      rw [hs] at hz
      rw [← hf, ← hg, ← hz]
      unfold crs sbP adP
      dsimp only
      grind
    have hs' : 0 < f ∨ f < 0 := by
      have : f ≠ 0 := fun e => by rw [e] at h; grind
      grind
    rcases hs' with hf0 | hf0
    · have hg0 : 0 < g := by
        refine Rat.not_le.1 fun hle => ?_
        have : 0 ≤ f * (-g) := Rat.mul_nonneg (by grind) (by grind)
        grind
      have k1 : 0 ≤ (1 - s) * f := Rat.mul_nonneg (by grind) (by grind)
      have k2 : 0 ≤ s * g := Rat.mul_nonneg s0 (by grind)
      have k3 : (1 - s) * f = 0 := by grind
      have k4 : s * g = 0 := by grind
      rcases Rat.mul_eq_zero.1 k4 with k | k
      · subst k; grind
      · grind
    · have hg0 : g < 0 := by
        refine Rat.not_le.1 fun hle => ?_
        have : 0 ≤ (-f) * g := Rat.mul_nonneg (by grind) (by grind)
        grind
      have k1 : 0 ≤ (1 - s) * (-f) := Rat.mul_nonneg (by grind) (by grind)
      have k2 : 0 ≤ s * (-g) := Rat.mul_nonneg s0 (by grind)
      have k3 : (1 - s) * f = 0 := by grind
      have k4 : s * g = 0 := by grind
      rcases Rat.mul_eq_zero.1 k4 with k | k
      · subst k; grind
      · grind
theorem apart_meet2 (h : 0 < crs (sbP d c) (sbP a c) * crs (sbP d c) (sbP b c)) : meetL a b c d = [] := by
  have h1 := apart_meet (a := c) (b := d) (c := a) (d := b) h
  have h2 := len_both (a := a) (b := b) (c := c) (d := d)
  rw [h1] at h2
  exact List.length_eq_zero_iff.1 h2.symm
theorem neg_div_neg (x y : Rat) : -x / -y = x / y := by
  by_cases hy : y = 0
  · subst hy
    rw [show (-0 : Rat) = 0 from by decide, Rat.div_def, Rat.div_def, Rat.inv_zero, Rat.mul_zero, Rat.mul_zero]
  · have h1 : -x / -y * -y = -x := Rat.div_mul_cancel (by grind)
    have h2 : x / y * y = x := Rat.div_mul_cancel hy
    exact mul_cancel hy (by grind)
theorem frac_mid {f g : Rat} (h : f * g < 0) : 0 < f / (f - g) ∧ f / (f - g) < 1 := by
  have hne : f - g ≠ 0 := fun e => by
    have : f = g := by grind
    subst this
    have : 0 ≤ f * f := by
      by_cases h : 0 ≤ f
      · exact Rat.mul_nonneg h h
      · have h' : 0 ≤ -f := by grind
        have := Rat.mul_nonneg h' h'
        grind
    grind
  have e : f / (f - g) * (f - g) = f := Rat.div_mul_cancel hne
  obtain ⟨q, hq⟩ : ∃ q, f / (f - g) = q := ⟨_, rfl⟩
  rw [hq] at e ⊢
  have hs : 0 < f ∨ f < 0 := by
    have : f ≠ 0 := fun e => by rw [e] at h; grind
    grind
  rcases hs with hf | hf
  · have hg : g < 0 := by
      refine Rat.not_le.1 fun hle => ?_
      have := Rat.mul_nonneg (show 0 ≤ f by grind) hle
      grind
    constructor
    · refine Rat.not_le.1 fun hle => ?_
      have := Rat.mul_nonneg (show 0 ≤ -q by grind) (show 0 ≤ f - g by grind)
      grind
    · refine Rat.not_le.1 fun hle => ?_
      have := Rat.mul_nonneg (show 0 ≤ q - 1 by grind) (show 0 ≤ f - g by grind)
      grind
  · have hg : 0 < g := by
      refine Rat.not_le.1 fun hle => ?_
      have := Rat.mul_nonneg (show 0 ≤ -f by grind) (show 0 ≤ -g by grind)
      grind
    constructor
    · refine Rat.not_le.1 fun hle => ?_
      have := Rat.mul_nonneg (show 0 ≤ -q by grind) (show 0 ≤ g - f by grind)
      grind
    · refine Rat.not_le.1 fun hle => ?_
      have := Rat.mul_nonneg (show 0 ≤ q - 1 by grind) (show 0 ≤ g - f by grind)
      grind
/-- Ends on both sides of each other: one point, which is no end. -/
theorem cross_meet (h : crs (sbP b a) (sbP c a) * crs (sbP b a) (sbP d a) < 0) (k : crs (sbP d c) (sbP a c) * crs (sbP d c) (sbP b c) < 0) : ∃ x, meetL a b c d = [x] ∧ x ≠ a ∧ x ≠ b ∧ x ≠ c ∧ x ≠ d := by
  have hS : cutS a b c d = crs (sbP b a) (sbP c a) / (crs (sbP b a) (sbP c a) - crs (sbP b a) (sbP d a)) := by
    unfold cutS
    have e1 : crs (sbP c a) (sbP b a) = -crs (sbP b a) (sbP c a) := by unfold crs sbP; dsimp only; grind
    have e2 : crs (sbP b a) (sbP d c) = -(crs (sbP b a) (sbP c a) - crs (sbP b a) (sbP d a)) := by unfold crs sbP; dsimp only; grind
    rw [e1, e2, neg_div_neg]
  have hT : cutT a b c d = crs (sbP d c) (sbP a c) / (crs (sbP d c) (sbP a c) - crs (sbP d c) (sbP b c)) := by
    unfold cutT
    have e1 : crs (sbP c a) (sbP d c) = crs (sbP d c) (sbP a c) := by unfold crs sbP; dsimp only; grind
    have e2 : crs (sbP b a) (sbP d c) = crs (sbP d c) (sbP a c) - crs (sbP d c) (sbP b c) := by unfold crs sbP; dsimp only; grind
    rw [e1, e2]
  obtain ⟨s0, s1⟩ := frac_mid h
  obtain ⟨t0, t1⟩ := frac_mid k
  rw [← hS] at s0 s1
  rw [← hT] at t0 t1
  have hk : crs (sbP b a) (sbP d c) ≠ 0 := fun e => by
    have e1 : crs (sbP b a) (sbP c a) = crs (sbP b a) (sbP d a) := by
      unfold crs sbP at e ⊢
      dsimp only at e ⊢
      grind
    rw [e1] at h
    obtain ⟨z, hz⟩ : ∃ z, crs (sbP b a) (sbP d a) = z := ⟨_, rfl⟩
    rw [hz] at h
    have : 0 ≤ z * z := by
      by_cases h : 0 ≤ z
      · exact Rat.mul_nonneg h h
      · have h' : 0 ≤ -z := by grind
        have := Rat.mul_nonneg h' h'
        grind
    grind
  have hu : sbP b a ≠ (0, 0) := fun e => hk (by rw [e]; unfold crs; dsimp only; grind)
  have hv : sbP d c ≠ (0, 0) := fun e => hk (by rw [e]; unfold crs; dsimp only; grind)
  refine ⟨mixP a b (cutT a b c d), ?_, ?_, ?_, ?_, ?_⟩
  · unfold meetL
    rw [if_neg hk, if_neg (by grind)]
  · intro e
    have := ad_inj (a := a) hu (y := 0) (e.trans (ad_zero _ _).symm)
    grind
  · intro e
    have := ad_inj (a := a) hu (y := 1) (e.trans (ad_one _ _).symm)
    grind
  · rw [(cut_com hk).1]
    intro e
    have := ad_inj (a := c) hv (y := 0) (e.trans (ad_zero _ _).symm)
    grind
  · rw [(cut_com hk).1]
    intro e
    have := ad_inj (a := c) hv (y := 1) (e.trans (ad_one _ _).symm)
    grind
end
end Go.Proofs.YtaaehcohmdojgaaGreatDoor.Sg

/-
  seg.between, seg.On in contracts.
-/
namespace Go.Proofs.YtaaehcohmdojgaaGreatDoor
open Go.RowKit Go.Shelf

def conR3 (F : Rat → Nat → Rat → Nat → Rat → Nat → Out T) : Con
  | [x, y, z] => match asRat x, asRat y, asRat z with | some (q, i), some (r, j), some (s, k) => F q i r j s k | _, _, _ => .fail
  | _ => .fail
theorem r3_ok {P : Program} {f : FuncId} {F : Rat → Nat → Rat → Nat → Rat → Nat → Out T} (he : ∀ vs w, (callFunc f vs).run P w = .ok (.enter f vs) w)
    (h : ∀ q i r j s k t, (F q i r j s k).gets t → i ≤ LimK ∧ j ≤ LimK ∧ k ≤ LimK ∧ ∀ (C : Ctx) w vs, (∀ r, C.S r → r < w.heap.size) → V.hasAll C w [[.rd q i], [.rd r j], [.rd s k]] vs → Calls P f (List.toArray vs) w (Makes w fun v w' => T.rel C w' t v)) : OkCon P f (conR3 F) := ⟨he, fun args t hg C w vs hlt ha => by
  unfold conR3 at hg
  split at hg
  · split at hg
    · rename_i q i r j s k hx hy hz
      obtain ⟨a, b, c, rfl, h1, h2, h3⟩ := all3 ha
      obtain ⟨l1, l2, l3, h4⟩ := h q i r j s k t hg
      exact h4 C w _ hlt ⟨a, [b, c], rfl, rd_has (asRat_rel hx h1 l1), b, [c], rfl, rd_has (asRat_rel hy h2 l2), c, [], rfl, rd_has (asRat_rel hz h3 l3), rfl⟩
    · exact hg.elim
  · exact hg.elim⟩
/-- Points, each of two fractions, with one bound. -/
def asPt (x : V) : Option (Sg.Pq × Nat) := match asRats 2 x with
  | some [(p, i), (q, j)] => some ((p, q), i.max j)
  | _ => none
theorem asPt_rd {C : Ctx} {w : World} {x : V} {p : Sg.Pq} {k : Nat} {v : Value} (h : asPt x = some (p, k)) (hx : x.has C w v) (hk : k ≤ LimK) : V.has C w [.rd p.1 k, .rd p.2 k] v := by
  unfold asPt at h
  split at h
  · rename_i a i b j he
    cases h
    exact pd_has (asPt_has hx he (Nat.le_max_left i j) (Nat.le_max_right i j) hk)
  · cases h
def conP3 (F : Sg.Pq → Nat → Sg.Pq → Nat → Sg.Pq → Nat → Out T) : Con
  | [x, y, z] => match asPt x, asPt y, asPt z with | some (p, i), some (q, j), some (r, k) => F p i q j r k | _, _, _ => .fail
  | _ => .fail
theorem p3_ok {P : Program} {f : FuncId} {F : Sg.Pq → Nat → Sg.Pq → Nat → Sg.Pq → Nat → Out T} (he : ∀ vs w, (callFunc f vs).run P w = .ok (.enter f vs) w)
    (h : ∀ p i q j r k t, (F p i q j r k).gets t → i ≤ LimK ∧ j ≤ LimK ∧ k ≤ LimK ∧ ∀ (C : Ctx) w vs, (∀ r, C.S r → r < w.heap.size) → V.hasAll C w [[.rd p.1 i, .rd p.2 i], [.rd q.1 j, .rd q.2 j], [.rd r.1 k, .rd r.2 k]] vs → Calls P f (List.toArray vs) w (Makes w fun v w' => T.rel C w' t v)) : OkCon P f (conP3 F) := ⟨he, fun args t hg C w vs hlt ha => by
  unfold conP3 at hg
  split at hg
  · split at hg
    · rename_i p i q j r k hx hy hz
      obtain ⟨a, b, c, rfl, h1, h2, h3⟩ := all3 ha
      obtain ⟨l1, l2, l3, h4⟩ := h p i q j r k t hg
      exact h4 C w _ hlt ⟨a, [b, c], rfl, asPt_rd hx h1 l1, b, [c], rfl, asPt_rd hy h2 l2, c, [], rfl, asPt_rd hz h3 l3, rfl⟩
    · exact hg.elim
  · exact hg.elim⟩
def cBtw (x : Rat) (i : Nat) (a : Rat) (j : Nat) (b : Rat) (k : Nat) : Out T := .chk ((i + j + k).blt LimK) (.leaf (.one [.sym (.bool (decide (Sg.Btw x a b)))]))
theorem btw_tree (x a b : Rat) (i j k : Nat) : exFn (envOf cons1) Tryz.f47 [[.rd x i], [.rd a j], [.rd b k]] = .chk ((j + k).blt LimK) (.br (decide (cmpR a b > 0))
    (.chk ((k + i).blt LimK) (.br (decide (cmpR b x ≤ 0)) (.chk ((i + j).blt LimK) (.leaf (.one [.sym (.bool (decide (cmpR x a ≤ 0)))]))) (.leaf (.one [.lit (.bool false)]))))
    (.chk ((j + i).blt LimK) (.br (decide (cmpR a x ≤ 0)) (.chk ((i + k).blt LimK) (.leaf (.one [.sym (.bool (decide (cmpR x b ≤ 0)))]))) (.leaf (.one [.lit (.bool false)]))))) := by kernel_rfl
theorem cmp_le0 {x y : Rat} : cmpR x y ≤ 0 ↔ x ≤ y := by rw [← cmpR_le]; exact Int.not_lt.symm
theorem cmp_gt0 {x y : Rat} : cmpR x y > 0 ↔ y < x := cmpR_gt
theorem cmp_lt0 {x y : Rat} : cmpR x y < 0 ↔ x < y := cmpR_lt
theorem one_bool {C : Ctx} {w : World} {a b : Bool} {v : Value} (h : T.rel C w (.one [.sym (.bool a)]) v) (he : b = a) : T.rel C w (.one [.sym (.bool b)]) v := he ▸ h
theorem ok_btw : OkCon Tryz.prog 47 (conR3 cBtw) := r3_ok (fun vs w => Go.MuLone.run_callFunc_enter Tryz.func47 rfl rfl vs w) fun x i a j b k t h => by
  obtain ⟨h0, rfl⟩ := h
  have h0 := Nat.ble_eq.mp h0
  refine ⟨by omega, by omega, by omega, fun C w vs hlt ha => ?_⟩
  have b1 : (j + k).blt LimK = true := Nat.ble_eq.mpr (by omega)
  have b2 : (k + i).blt LimK = true := Nat.ble_eq.mpr (by omega)
  have b3 : (i + j).blt LimK = true := Nat.ble_eq.mpr (by omega)
  have b4 : (j + i).blt LimK = true := Nat.ble_eq.mpr (by omega)
  have b5 : (i + k).blt LimK = true := Nat.ble_eq.mpr (by omega)
  have key := fun t ht => fn_tree (envOf_ok cons1_ok) Tryz.func47 (btw_tree x a b i j k) (t := t) ht hlt ha
  by_cases h1 : cmpR a b > 0
  · have h1' := cmp_gt0.1 h1
    by_cases h2 : cmpR b x ≤ 0
    · have h2' := cmp_le0.1 h2
      refine (key _ ⟨b1, .inl ⟨decide_eq_true h1, b2, .inl ⟨decide_eq_true h2, b3, rfl⟩⟩⟩).mono fun _ _ h => h.imp fun _ h => one_bool h (decide_eq_decide.2 ?_)
      rw [cmp_le0]
      unfold Sg.Btw
      grind
    · have h2' := fun h => h2 (cmp_le0.2 h)
      refine (key _ ⟨b1, .inl ⟨decide_eq_true h1, b2, .inr ⟨decide_eq_false h2, rfl⟩⟩⟩).mono fun _ _ h => h.imp fun _ h => one_bool (a := false) h (decide_eq_false ?_)
      unfold Sg.Btw
      grind
  · have h1' := fun h => h1 (cmp_gt0.2 h)
    by_cases h2 : cmpR a x ≤ 0
    · have h2' := cmp_le0.1 h2
      refine (key _ ⟨b1, .inr ⟨decide_eq_false h1, b4, .inl ⟨decide_eq_true h2, b5, rfl⟩⟩⟩).mono fun _ _ h => h.imp fun _ h => one_bool h (decide_eq_decide.2 ?_)
      rw [cmp_le0]
      unfold Sg.Btw
      grind
    · have h2' := fun h => h2 (cmp_le0.2 h)
      refine (key _ ⟨b1, .inr ⟨decide_eq_false h1, b4, .inr ⟨decide_eq_false h2, rfl⟩⟩⟩).mono fun _ _ h => h.imp fun _ h => one_bool (a := false) h (decide_eq_false ?_)
      unfold Sg.Btw
      grind
noncomputable def consG0 : List (FuncId × Con) := (47, conR3 cBtw) :: cons4
theorem consG0_ok : AllCon Tryz.prog consG0 := ⟨ok_btw, cons4_ok⟩
def cOn (p : Sg.Pq) (i : Nat) (a : Sg.Pq) (j : Nat) (b : Sg.Pq) (k : Nat) : Out T := .chk ((8 * (i + j + k) + 8).blt LimK) (.leaf (.one [.sym (.bool (decide (Sg.OnP p a b)))]))
end Go.Proofs.YtaaehcohmdojgaaGreatDoor

/-
  seg.On, seg.along in contracts.
-/
namespace Go.Proofs.YtaaehcohmdojgaaGreatDoor
open Go.RowKit Go.Shelf

theorem on_tree (p a b : Sg.Pq) (i j k : Nat) : exFn (envOf consG0) Tryz.f15 [[.rd p.1 i, .rd p.2 i], [.rd a.1 j, .rd a.2 j], [.rd b.1 k, .rd b.2 k]] = .chk ((k + j).blt LimK) (.chk ((k + j).blt LimK) (.chk ((i + j).blt LimK) (.chk ((i + j).blt LimK) (.chk ((k + j + 1 + (i + j + 1)).blt LimK) (.chk ((k + j + 1 + (i + j + 1)).blt LimK)
    (.chk ((k + j + 1 + (i + j + 1) + (k + j + 1 + (i + j + 1))).blt LimK) (.chk ((k + j + 1 + (i + j + 1) + (k + j + 1 + (i + j + 1)) + 1).blt LimK) (.br (cmpR (Sg.crs (Sg.sbP b a) (Sg.sbP p a)) 0 == 0)
      (.chk ((i + j + k).blt LimK) (.br (decide (Sg.Btw p.1 a.1 b.1)) (.chk ((i + j + k).blt LimK) (.leaf (.one [.sym (.bool (decide (Sg.Btw p.2 a.2 b.2)))]))) (.leaf (.one [.lit (.bool false)])))) (.leaf (.one [.lit (.bool false)])))))))))) := by kernel_rfl
theorem ok_on : OkCon Tryz.prog 15 (conP3 cOn) := p3_ok (fun vs w => Go.MuLone.run_callFunc_enter Tryz.func15 rfl rfl vs w) fun p i a j b k t h => by
  obtain ⟨h0, rfl⟩ := h
  have h0 := Nat.ble_eq.mp h0
  refine ⟨by omega, by omega, by omega, fun C w vs hlt ha => ?_⟩
  have key := fun t ht => fn_tree (envOf_ok consG0_ok) Tryz.func15 (on_tree p a b i j k) (t := t) ht hlt ha
  by_cases h1 : Sg.crs (Sg.sbP b a) (Sg.sbP p a) = 0
  · have e1 : (cmpR (Sg.crs (Sg.sbP b a) (Sg.sbP p a)) 0 == 0) = true := by rw [cmp_dec]; exact decide_eq_true h1
    by_cases h2 : Sg.Btw p.1 a.1 b.1
    · refine (key (.one [.sym (.bool (decide (Sg.Btw p.2 a.2 b.2)))]) ?_).mono fun _ _ h => h.imp fun _ h => one_bool h (decide_eq_decide.2 ⟨fun h => h.2.2, fun h => ⟨h1, h2, h⟩⟩)
      repeat refine ⟨Nat.ble_eq.mpr (by omega), ?_⟩
      refine .inl ⟨e1, Nat.ble_eq.mpr (by omega), .inl ⟨decide_eq_true h2, Nat.ble_eq.mpr (by omega), rfl⟩⟩
    · refine (key (.one [.lit (.bool false)]) ?_).mono fun _ _ h => h.imp fun _ h => one_bool (a := false) h (decide_eq_false fun h => h2 h.2.1)
      repeat refine ⟨Nat.ble_eq.mpr (by omega), ?_⟩
      refine .inl ⟨e1, Nat.ble_eq.mpr (by omega), .inr ⟨decide_eq_false h2, rfl⟩⟩
  · have e1 : (cmpR (Sg.crs (Sg.sbP b a) (Sg.sbP p a)) 0 == 0) = false := by rw [cmp_dec]; exact decide_eq_false h1
    refine (key (.one [.lit (.bool false)]) ?_).mono fun _ _ h => h.imp fun _ h => one_bool (a := false) h (decide_eq_false fun h => h1 h.1)
    repeat refine ⟨Nat.ble_eq.mpr (by omega), ?_⟩
    exact .inr ⟨e1, rfl⟩
noncomputable def consG1 : List (FuncId × Con) := (15, conP3 cOn) :: consG0
theorem consG1_ok : AllCon Tryz.prog consG1 := ⟨ok_on, consG0_ok⟩
/-- Where a point is an end, as its bound tells, it is on the segment. -/
def cOnT (p : Sg.Pq) (i : Nat) (a : Sg.Pq) (j : Nat) (b : Sg.Pq) (k : Nat) : Out T := bif i == j then .chk ((8 * (i + j + k) + 8).blt LimK) (.need (p = a) (.leaf (.one [.lit (.bool true)]))) else bif i == k then .chk ((8 * (i + j + k) + 8).blt LimK) (.need (p = b) (.leaf (.one [.lit (.bool true)]))) else cOn p i a j b k
theorem p3_sub {P : Program} {f : FuncId} {F G : Sg.Pq → Nat → Sg.Pq → Nat → Sg.Pq → Nat → Out T} (h : OkCon P f (conP3 F)) (hg : ∀ p i q j r k t, (G p i q j r k).gets t → ∃ t', (F p i q j r k).gets t' ∧ T.sub t' t) : OkCon P f (conP3 G) := ⟨h.enter, fun args t hgt C w vs hlt ha => by
  unfold conP3 at hgt
  split at hgt
  · rename_i x y z
    split at hgt
    · rename_i p i q j r k hx hy hz
      obtain ⟨t', h1, h2⟩ := hg p i q j r k t hgt
      refine (h.calls [x, y, z] t' ?_ C w vs hlt ha).mono fun _ _ h => h.imp fun _ h => h2 _ _ _ h
      simp only [conP3, hx, hy, hz]
      exact h1
    · exact hgt.elim
  · exact hgt.elim⟩
theorem sub_true {b : Bool} (h : b = true) : T.sub (.one [.sym (.bool b)]) (.one [.lit (.bool true)]) := fun C w v hr => by
  subst h
  exact hr
theorem ok_onT : OkCon Tryz.prog 15 (conP3 cOnT) := p3_sub ok_on fun p i a j b k t h => by
  unfold cOnT at h
  cases h1 : i == j
  · rw [h1] at h
    simp only [cond_false] at h
    cases h2 : i == k
    · rw [h2] at h
      exact ⟨t, h, T.sub_refl t⟩
    · rw [h2] at h
      obtain ⟨h3, rfl, rfl⟩ := h
      exact ⟨_, ⟨h3, rfl⟩, sub_true (decide_eq_true (Sg.on_right _ _))⟩
  · rw [h1] at h
    obtain ⟨h3, rfl, rfl⟩ := h
    exact ⟨_, ⟨h3, rfl⟩, sub_true (decide_eq_true (Sg.on_left _ _))⟩
noncomputable def consG2 := fnsOf consG1 [(76, Tryz.f76)]
theorem consG2_ok : AllCon Tryz.prog consG2 := fns_ok consG1_ok ⟨⟨Tryz.func76, rfl, rfl⟩, trivial⟩
noncomputable def consG2t : List (FuncId × Con) := (15, conP3 cOnT) :: consG2
theorem consG2t_ok : AllCon Tryz.prog consG2t := ⟨ok_onT, consG2_ok⟩
/-! ### along -/
section
open Sg
abbrev Tg := List (Pq × Nat)
/-- Is a point among those that are kept? -/
def sameO (x : Pq) : Tg → Out T → Out T → Out T
  | [], _, n => n
  | z :: r, y, n => .br (decide (x.1 = z.1.1 + 0 ∧ x.2 = z.1.2 + 0)) y (sameO x r y n)
def stepA (c d : Pq) (l : Tg) (x : Pq) (g : Nat) (k : Tg → Out T) : Out T := .need (x = x) (.br (!decide (OnP x c d)) (k l) (sameO x l (k l) (k (l ++ [(x, g)]))))
def stepC (a b : Pq) (l : Tg) (x : Pq) (g : Nat) (k : Tg → Out T) : Out T := .br (!decide (OnP x a b)) (k l) (.need (x = x) (sameO x l (k l) (k (l ++ [(x, g)]))))
def flatG : Tg → List Rat
  | [] => []
  | p :: r => (p.1.1 + 0) :: (p.1.2 + 0) :: flatG r
def kOf : Tg → Nat
  | [] => 0
  | p :: r => p.2.max (p.2.max (kOf r))
def frT (n : Nat) (l : List Rat) (k : Nat) : T := .one [.fr 0 2 n l k]
def nilT : T := .one [.lit (.slice none 0 0)]
def finO (a : Pq) : Tg → Out T
  | [] => .leaf nilT
  | [p] => .leaf (frT 1 (flatG [p]) (kOf [p]))
  | [p, q] => .br (decide (cmpR (farP (p.1.1 + 0, p.1.2 + 0) a) (farP (q.1.1 + 0, q.1.2 + 0) a) > 0)) (.leaf (frT 2 (flatG [q, p]) (kOf [q, p]))) (.leaf (frT 2 (flatG [p, q]) (kOf [p, q])))
  | [p, q, r] => .leaf (frT 3 (flatG [p, q, r]) (kOf [p, q, r]))
  | [p, q, r, s] => .leaf (frT 4 (flatG [p, q, r, s]) (kOf [p, q, r, s]))
  | _ => .fail
def alongO (a b c d : Pq) : Out T := stepA c d [] a 8 fun l => stepA c d l b 18 fun l => stepC a b l c 28 fun l => stepC a b l d 38 (finO a)
def at0 (l : List Pq) : Pq := l.getD 0 (0, 0)
def at1 (l : List Pq) : Pq := l.getD 1 (0, 0)
/-- A list of two points at most, by its length. -/
def shape3 (l : List Pq) : Out T := .br (decide (l.length = 0)) (.leaf nilT) (.br (decide (l.length = 1)) (.leaf (frT 1 [(at0 l).1, (at0 l).2] 40)) (.br (decide (l.length = 2)) (.leaf (frT 2 [(at0 l).1, (at0 l).2, (at1 l).1, (at1 l).2] 40)) .fail))
end
end Go.Proofs.YtaaehcohmdojgaaGreatDoor

/-
  seg.along in a contract.
-/
namespace Go.Proofs.YtaaehcohmdojgaaGreatDoor
open Go.RowKit Go.Shelf
open Sg

theorem along_tree (a b c d : Pq) : (exFn (envOf consG2t) Tryz.f36 [[.rd a.1 6, .rd a.2 6], [.rd b.1 16, .rd b.2 16], [.rd c.1 26, .rd c.2 26], [.rd d.1 36, .rd d.2 36]]).clean = alongO a b c d := by kernel_rfl
theorem FrP.mono {d i j : Nat} {w : World} {v : Value} {q : Rat} (h : FrP d i w v q) (hi : i ≤ j) : FrP d j w v q := by
  match d, h with
  | 0, h => exact ⟨h.1, h.2.mono hi⟩
  | 1, h => exact ⟨h.1, h.2.mono hi⟩
  | _ + 2, h => exact RS.mono h hi
theorem fr_mono {d a n i j : Nat} {l : List Rat} (hi : i ≤ j) (hj : j ≤ LimK) : T.sub (.one [.fr d a n l i]) (.one [.fr d a n l j]) := fun C w v h => by
  have h := u_rel h rfl
  obtain ⟨p, c, h1, h2, h3, -, h4⟩ := h
  exact one_of ⟨p, c, h1, h2, h3, hj, fun hn => by
    obtain ⟨G, o, h5, h6⟩ := h4 hn
    refine ⟨G, o, h5, fun i x hx => ?_⟩
    obtain ⟨k1, a, b, c, k2, k3, k4, k5⟩ := h6 i x hx
    exact ⟨k1, a, b, c, k2, k3, k4, k5.mono hi⟩⟩
theorem same_zero {x z : Pq} : (x.1 = z.1 + 0 ∧ x.2 = z.2 + 0) ↔ x = z := by
  rw [Rat.add_zero, Rat.add_zero]
  exact ⟨fun h => Prod.ext h.1 h.2, fun h => by rw [h]; exact ⟨rfl, rfl⟩⟩
theorem sameO_gets {x : Pq} {y n : Out T} {t : T} : ∀ {l : Tg}, (if x ∈ l.map (·.1) then y else n).gets t → (sameO x l y n).gets t
  | [], h => by
    rw [if_neg (by simp)] at h
    exact h
  | z :: r, h => by
    by_cases hz : x = z.1
    · rw [if_pos (by simp [hz])] at h
      exact .inl ⟨decide_eq_true (same_zero.2 hz), h⟩
    · refine .inr ⟨decide_eq_false (fun e => hz (same_zero.1 e)), sameO_gets ?_⟩
      have : x ∈ (z :: r).map (·.1) ↔ x ∈ r.map (·.1) := by simp [hz]
      simpa only [this] using h
def stepG (K : Pq → Prop) [DecidablePred K] (l : Tg) (x : Pq) (g : Nat) : Tg := if K x ∧ x ∉ l.map (·.1) then l ++ [(x, g)] else l
theorem stepG_map (K : Pq → Prop) [DecidablePred K] (l : Tg) (x : Pq) (g : Nat) : (stepG K l x g).map (·.1) = stepS K (l.map (·.1)) x := by
  unfold stepG stepS
  by_cases h : K x ∧ x ∉ l.map (·.1)
  · rw [if_pos h, if_pos h]
    simp
  · rw [if_neg h, if_neg h]
theorem stepG_le {K : Pq → Prop} [DecidablePred K] {l : Tg} {x : Pq} {g : Nat} (h : ∀ p ∈ l, p.2 ≤ 38) (hg : g ≤ 38) : ∀ p ∈ stepG K l x g, p.2 ≤ 38 := by
  unfold stepG
  split
  · intro p hp
    rcases List.mem_append.1 hp with hp | hp
    · exact h p hp
    · simp only [List.mem_singleton] at hp
      subst hp
      exact hg
  · exact h
theorem not_bool {p : Prop} [Decidable p] (h : p) : (!decide p) = false := by simp [h]
theorem not_bool' {p : Prop} [Decidable p] (h : ¬ p) : (!decide p) = true := by simp [h]
theorem stepA_gets {a b c d x : Pq} (hx : OnP x a b) {l : Tg} {g : Nat} {k : Tg → Out T} {t : T} (h : (k (stepG (Com a b c d) l x g)).gets t) : (stepA c d l x g k).gets t := by
  unfold stepG at h
  by_cases h2 : OnP x c d
  · refine ⟨rfl, .inr ⟨not_bool h2, sameO_gets ?_⟩⟩
    by_cases hm : x ∈ l.map (·.1)
    · rw [if_neg (fun e => e.2 hm)] at h
      rw [if_pos hm]
      exact h
    · rw [if_pos ⟨⟨hx, h2⟩, hm⟩] at h
      rw [if_neg hm]
      exact h
  · rw [if_neg (fun e => h2 e.1.2)] at h
    exact ⟨rfl, .inl ⟨not_bool' h2, h⟩⟩
theorem stepC_gets {a b c d x : Pq} (hx : OnP x c d) {l : Tg} {g : Nat} {k : Tg → Out T} {t : T} (h : (k (stepG (Com a b c d) l x g)).gets t) : (stepC a b l x g k).gets t := by
  unfold stepG at h
  by_cases h2 : OnP x a b
  · refine .inr ⟨not_bool h2, rfl, sameO_gets ?_⟩
    by_cases hm : x ∈ l.map (·.1)
    · rw [if_neg (fun e => e.2 hm)] at h
      rw [if_pos hm]
      exact h
    · rw [if_pos ⟨⟨h2, hx⟩, hm⟩] at h
      rw [if_neg hm]
      exact h
  · rw [if_neg (fun e => h2 e.1.1)] at h
    exact .inl ⟨not_bool' h2, h⟩
theorem shape_nil {t : T} (h : (shape3 []).gets t) : t = nilT := by
  rcases h with ⟨-, h⟩ | ⟨h, -⟩
  · exact h.symm
  · cases h
theorem shape_one {p : Pq} {t : T} (h : (shape3 [p]).gets t) : t = frT 1 [p.1, p.2] 40 := by
  rcases h with ⟨h, -⟩ | ⟨-, ⟨-, h⟩ | ⟨h, -⟩⟩
  · cases h
  · exact h.symm
  · cases h
theorem shape_two {p q : Pq} {t : T} (h : (shape3 [p, q]).gets t) : t = frT 2 [p.1, p.2, q.1, q.2] 40 := by
  rcases h with ⟨h, -⟩ | ⟨-, ⟨h, -⟩ | ⟨-, ⟨-, h⟩ | ⟨h, -⟩⟩⟩
  · cases h
  · cases h
  · exact h.symm
  · cases h
theorem shape_more {p q r : Pq} {l : List Pq} {t : T} (h : (shape3 (p :: q :: r :: l)).gets t) : False := by
  rcases h with ⟨h, -⟩ | ⟨-, ⟨h, -⟩ | ⟨-, ⟨h, -⟩ | ⟨-, h⟩⟩⟩
  · simp at h
  · simp at h
  · simp at h
  · exact h
theorem kOf_le : ∀ {l : Tg}, (∀ p ∈ l, p.2 ≤ 38) → kOf l ≤ 38
  | [], _ => by decide
  | p :: r, h => by
    have h1 := h p (by simp)
    have h2 := kOf_le (l := r) (fun q hq => h q (by simp [hq]))
    unfold kOf
    exact Nat.max_le.2 ⟨h1, Nat.max_le.2 ⟨h1, h2⟩⟩
theorem finO_gets {a : Pq} {l : Tg} {t : T} (hl : ∀ p ∈ l, p.2 ≤ 38) (h : (shape3 (nearerL a (l.map (·.1)))).gets t) : ∃ t', (finO a l).gets t' ∧ T.sub t' t := by
  match l, hl, h with
  | [], _, h => exact ⟨_, rfl, by rw [shape_nil h]; exact T.sub_refl _⟩
  | [p], hl, h =>
    refine ⟨_, rfl, ?_⟩
    rw [shape_one h]
    simp only [flatG, Rat.add_zero]
    exact fr_mono (by have := kOf_le hl; omega) (by decide)
  | [p, q], hl, h =>
    simp only [finO, flatG, Rat.add_zero]
    change (shape3 (if farP q.1 a < farP p.1 a then [q.1, p.1] else [p.1, q.1])).gets t at h
    by_cases hf : farP q.1 a < farP p.1 a
    · rw [if_pos hf] at h
      refine ⟨_, .inl ⟨decide_eq_true (cmp_gt0.2 hf), rfl⟩, ?_⟩
      rw [shape_two h]
      exact fr_mono (by have := kOf_le (l := [q, p]) (fun x hx => hl x (by simp at hx ⊢; exact hx.symm)); omega) (by decide)
    · rw [if_neg hf] at h
      refine ⟨_, .inr ⟨decide_eq_false (fun e => hf (cmp_gt0.1 e)), rfl⟩, ?_⟩
      rw [shape_two h]
      exact fr_mono (by have := kOf_le hl; omega) (by decide)
  | p :: q :: r :: s, _, h => exact (shape_more h).elim
theorem alongO_gets {a b c d : Pq} {t : T} (h : (shape3 (alongL a b c d)).gets t) : ∃ t', (alongO a b c d).gets t' ∧ T.sub t' t := by
  unfold alongL at h
  have e : nearerL a (stepS (Com a b c d) (stepS (Com a b c d) (stepS (Com a b c d) (stepS (Com a b c d) [] a) b) c) d) = nearerL a ((stepG (Com a b c d) (stepG (Com a b c d) (stepG (Com a b c d) (stepG (Com a b c d) [] a 8) b 18) c 28) d 38).map (·.1)) := by
    simp only [stepG_map, List.map_nil]
  rw [e] at h
  obtain ⟨t', h1, h2⟩ := finO_gets (stepG_le (stepG_le (stepG_le (stepG_le (fun p hp => by cases hp) (by decide)) (by decide)) (by decide)) (by decide)) h
  exact ⟨t', stepA_gets (on_left a b) (stepA_gets (on_right a b) (stepC_gets (on_left c d) (stepC_gets (on_right c d) h1))), h2⟩
def conP4 (F : Pq → Pq → Pq → Pq → Out T) : Con
  | [x, y, z, u] => match asPt x, asPt y, asPt z, asPt u with | some (p, i), some (q, j), some (r, k), some (s, m) => .chk (i.ble 6 && j.ble 6 && k.ble 6 && m.ble 6) (F p q r s) | _, _, _, _ => .fail
  | _ => .fail
theorem rd_mono {C : Ctx} {w : World} {q r : Rat} {i j : Nat} {v : Value} (h : V.has C w [.rd q i, .rd r i] v) (hi : i ≤ j) : V.has C w [.rd q j, .rd r j] v := by
  obtain ⟨cs, ⟨c1, c2, rfl, ⟨a, b, c, rfl, h1⟩, c3, c4, rfl, ⟨a', b', c', rfl, h2⟩, h3⟩, rfl⟩ := h
  simp only [V.rel] at h3
  subst h3
  exact ⟨_, ⟨[a, b, c], _, rfl, ⟨a, b, c, rfl, h1.mono hi⟩, [a', b', c'], [], rfl, ⟨a', b', c', rfl, h2.mono hi⟩, rfl⟩, rfl⟩
theorem p4_ok {P : Program} {f : FuncId} {F : Pq → Pq → Pq → Pq → Out T} (he : ∀ vs w, (callFunc f vs).run P w = .ok (.enter f vs) w)
    (h : ∀ p q r s t, (F p q r s).gets t → ∀ (C : Ctx) w vs, (∀ r, C.S r → r < w.heap.size) → V.hasAll C w [[.rd p.1 6, .rd p.2 6], [.rd q.1 6, .rd q.2 6], [.rd r.1 6, .rd r.2 6], [.rd s.1 6, .rd s.2 6]] vs → Calls P f (List.toArray vs) w (Makes w fun v w' => T.rel C w' t v)) : OkCon P f (conP4 F) := ⟨he, fun args t hg C w vs hlt ha => by
  unfold conP4 at hg
  split at hg
  · split at hg
    · rename_i p i q j r k s m hx hy hz hu
      obtain ⟨hb, hg⟩ := hg
      simp only [Bool.and_eq_true] at hb
      have l1 := Nat.le_of_ble_eq_true hb.1.1.1
      have l2 := Nat.le_of_ble_eq_true hb.1.1.2
      have l3 := Nat.le_of_ble_eq_true hb.1.2
      have l4 := Nat.le_of_ble_eq_true hb.2
      have hL : 6 ≤ LimK := by decide
      obtain ⟨v1, r1, rfl, h1, v2, r2, rfl, h2, v3, r3, rfl, h3, v4, r4, rfl, h4, h5⟩ := ha
      simp only [V.hasAll] at h5
      subst h5
      exact h p q r s t hg C w _ hlt ⟨v1, _, rfl, rd_mono (asPt_rd hx h1 (by omega)) l1, v2, _, rfl, rd_mono (asPt_rd hy h2 (by omega)) l2, v3, _, rfl, rd_mono (asPt_rd hz h3 (by omega)) l3, v4, [], rfl, rd_mono (asPt_rd hu h4 (by omega)) l4, rfl⟩
    · exact hg.elim
  · exact hg.elim⟩
theorem tree_calls {E : Env} (hE : E.Ok) {f : FuncId} {fn : Func} (hf : E.P.funcs[f]? = some fn) {args : List V} {o : Out T} {t : T} (he : (exFn E fn args).clean = o) (h : o.gets t) {C : Ctx} {w : World} {vs : List Value} (hlt : ∀ r, C.S r → r < w.heap.size) (ha : V.hasAll C w args vs) :
    Calls E.P f (List.toArray vs) w (Makes w fun v w' => T.rel C w' t v) := by
  subst he
  exact fn_calls hE hf (clean_gets h) hlt ha
theorem ok_along : OkCon Tryz.prog 36 (conP4 fun a b c d => shape3 (alongL a b c d)) := p4_ok (fun vs w => Go.MuLone.run_callFunc_enter Tryz.func36 rfl rfl vs w) fun a b c d t h C w vs hlt ha => by
  obtain ⟨t', h1, h2⟩ := alongO_gets h
  obtain ⟨v1, r1, rfl, k1, v2, r2, rfl, k2, v3, r3, rfl, k3, v4, r4, rfl, k4, k5⟩ := ha
  have ha' : V.hasAll C w [[.rd a.1 6, .rd a.2 6], [.rd b.1 16, .rd b.2 16], [.rd c.1 26, .rd c.2 26], [.rd d.1 36, .rd d.2 36]] _ := ⟨v1, _, rfl, k1, v2, _, rfl, rd_mono k2 (by decide), v3, _, rfl, rd_mono k3 (by decide), v4, r4, rfl, rd_mono k4 (by decide), k5⟩
  exact (tree_calls (envOf_ok consG2t_ok) Tryz.func36 (along_tree a b c d) h1 hlt ha').mono fun _ _ h => h.imp fun _ h => h2 _ _ _ h
noncomputable def consG3 : List (FuncId × Con) := (36, conP4 fun a b c d => shape3 (alongL a b c d)) :: consG2
theorem consG3_ok : AllCon Tryz.prog consG3 := ⟨ok_along, consG2_ok⟩
end Go.Proofs.YtaaehcohmdojgaaGreatDoor

/-
  seg.Meet in a contract.
-/
namespace Go.Proofs.YtaaehcohmdojgaaGreatDoor
open Go.RowKit Go.Shelf
open Sg

def mixF (a b : Pq) (t : Rat) : List Rat := [a.1 + (b.1 - a.1) * t, a.2 + (b.2 - a.2) * t]
def cutO (a b : Pq) (t s : Rat) : Out T := .br (decide (cmpR t 0 < 0)) (.leaf nilT) (.br (decide (cmpR s 0 < 0)) (.leaf nilT) (.br (decide (cmpR t (mkRat 1 1) > 0)) (.leaf nilT) (.br (decide (cmpR s (mkRat 1 1) > 0)) (.leaf nilT) (.leaf (frT 1 (mixF a b t) 126)))))
def meetO (a b c d : Pq) : Out T := .br (decide (crs (sbP b a) (sbP d c) = 0)) (shape3 (alongL a b c d)) (.br (decide (crs (sbP b a) (sbP d c) = 0)) (cutO a b (cutT a b c d) 0) (cutO a b (cutT a b c d) (cutS a b c d)))
theorem meet_tree (a b c d : Pq) : (exFn (envOf consG3) Tryz.f12 [[.rd a.1 6, .rd a.2 6], [.rd b.1 6, .rd b.2 6], [.rd c.1 6, .rd c.2 6], [.rd d.1 6, .rd d.2 6]]).clean = meetO a b c d := by kernel_rfl
def shapeM (l : List Pq) : Out T := .br (decide (l.length = 0)) (.leaf nilT) (.br (decide (l.length = 1)) (.leaf (frT 1 [(at0 l).1, (at0 l).2] 126)) (.leaf (frT 2 [(at0 l).1, (at0 l).2, (at1 l).1, (at1 l).2] 126)))
theorem shapeM_nil {t : T} (h : (shapeM []).gets t) : t = nilT := by
  rcases h with ⟨-, h⟩ | ⟨h, -⟩
  · exact h.symm
  · cases h
theorem shapeM_one {p : Pq} {t : T} (h : (shapeM [p]).gets t) : t = frT 1 [p.1, p.2] 126 := by
  rcases h with ⟨h, -⟩ | ⟨-, ⟨-, h⟩ | ⟨h, -⟩⟩
  · cases h
  · exact h.symm
  · cases h
theorem shapeM_two {p q : Pq} {t : T} (h : (shapeM [p, q]).gets t) : t = frT 2 [p.1, p.2, q.1, q.2] 126 := by
  rcases h with ⟨h, -⟩ | ⟨-, ⟨h, -⟩ | ⟨-, h⟩⟩
  · cases h
  · cases h
  · exact h.symm
theorem meets_cases {a b c d : Pq} {l : List Pq} (h : Meets a b c d l) : l = [] ∨ (∃ p, l = [p]) ∨ ∃ p q, l = [p, q] := by
  rcases h with ⟨h, -⟩ | ⟨p, h, -⟩ | ⟨p, q, h, -⟩
  · exact .inl h
  · exact .inr (.inl ⟨p, h⟩)
  · exact .inr (.inr ⟨p, q, h⟩)
theorem shapeM_3 {l : List Pq} {t : T} (hl : l = [] ∨ (∃ p, l = [p]) ∨ ∃ p q, l = [p, q]) (h : (shapeM l).gets t) : ∃ t', (shape3 l).gets t' ∧ T.sub t' t := by
  rcases hl with rfl | ⟨p, rfl⟩ | ⟨p, q, rfl⟩
  · exact ⟨nilT, .inl ⟨rfl, rfl⟩, by rw [shapeM_nil h]; exact T.sub_refl _⟩
  · exact ⟨frT 1 [p.1, p.2] 40, .inr ⟨rfl, .inl ⟨rfl, rfl⟩⟩, by rw [shapeM_one h]; exact fr_mono (by decide) (by decide)⟩
  · exact ⟨frT 2 [p.1, p.2, q.1, q.2] 40, .inr ⟨rfl, .inr ⟨rfl, .inl ⟨rfl, rfl⟩⟩⟩, by rw [shapeM_two h]; exact fr_mono (by decide) (by decide)⟩
theorem one_rat : mkRat 1 1 = 1 := by decide +kernel
theorem meetO_gets {a b c d : Pq} {t : T} (h : (shapeM (meetL a b c d)).gets t) : ∃ t', (meetO a b c d).gets t' ∧ T.sub t' t := by
  by_cases hk : crs (sbP b a) (sbP d c) = 0
  · have e : meetL a b c d = alongL a b c d := by unfold meetL; rw [if_pos hk]
    rw [e] at h
    obtain ⟨t', h1, h2⟩ := shapeM_3 (meets_cases (along_meets hk)) h
    exact ⟨t', .inl ⟨decide_eq_true hk, h1⟩, h2⟩
  · have hgo : ∀ t', (cutO a b (cutT a b c d) (cutS a b c d)).gets t' → (meetO a b c d).gets t' := fun t' h => .inr ⟨decide_eq_false hk, .inr ⟨decide_eq_false hk, h⟩⟩
    by_cases hc : cutT a b c d < 0 ∨ cutS a b c d < 0 ∨ 1 < cutT a b c d ∨ 1 < cutS a b c d
    · have e : meetL a b c d = [] := by unfold meetL; rw [if_neg hk, if_pos hc]
      rw [e] at h
      have ht := shapeM_nil h
      subst ht
      refine ⟨nilT, hgo _ ?_, T.sub_refl _⟩
      unfold cutO
      rw [one_rat]
      by_cases h1 : cutT a b c d < 0
      · exact .inl ⟨decide_eq_true (cmp_lt0.2 h1), rfl⟩
      refine .inr ⟨decide_eq_false (fun e => h1 (cmp_lt0.1 e)), ?_⟩
      by_cases h2 : cutS a b c d < 0
      · exact .inl ⟨decide_eq_true (cmp_lt0.2 h2), rfl⟩
      refine .inr ⟨decide_eq_false (fun e => h2 (cmp_lt0.1 e)), ?_⟩
      by_cases h3 : 1 < cutT a b c d
      · exact .inl ⟨decide_eq_true (cmp_gt0.2 h3), rfl⟩
      refine .inr ⟨decide_eq_false (fun e => h3 (cmp_gt0.1 e)), ?_⟩
      have h4 : 1 < cutS a b c d := by grind
      exact .inl ⟨decide_eq_true (cmp_gt0.2 h4), rfl⟩
    · have e : meetL a b c d = [mixP a b (cutT a b c d)] := by unfold meetL; rw [if_neg hk, if_neg hc]
      rw [e] at h
      have ht := shapeM_one h
      subst ht
      refine ⟨frT 1 (mixF a b (cutT a b c d)) 126, hgo _ ?_, ?_⟩
      · unfold cutO
        rw [one_rat]
        exact .inr ⟨decide_eq_false (fun e => hc (.inl (cmp_lt0.1 e))), .inr ⟨decide_eq_false (fun e => hc (.inr (.inl (cmp_lt0.1 e)))), .inr ⟨decide_eq_false (fun e => hc (.inr (.inr (.inl (cmp_gt0.1 e))))), .inr ⟨decide_eq_false (fun e => hc (.inr (.inr (.inr (cmp_gt0.1 e))))), rfl⟩⟩⟩⟩
      · have e1 : mixF a b (cutT a b c d) = [(mixP a b (cutT a b c d)).1, (mixP a b (cutT a b c d)).2] := by
          unfold mixF mixP adP sbP
          dsimp only
          rw [Rat.mul_comm (b.1 - a.1), Rat.mul_comm (b.2 - a.2)]
        rw [e1]
        exact T.sub_refl _
theorem ok_meet : OkCon Tryz.prog 12 (conP4 fun a b c d => shapeM (meetL a b c d)) := p4_ok (fun vs w => Go.MuLone.run_callFunc_enter Tryz.func12 rfl rfl vs w) fun a b c d t h C w vs hlt ha => by
  obtain ⟨t', h1, h2⟩ := meetO_gets h
  exact (tree_calls (envOf_ok consG3_ok) Tryz.func12 (meet_tree a b c d) h1 hlt ha).mono fun _ _ h => h.imp fun _ h => h2 _ _ _ h
noncomputable def consG4 : List (FuncId × Con) := (12, conP4 fun a b c d => shapeM (meetL a b c d)) :: consG2
theorem consG4_ok : AllCon Tryz.prog consG4 := ⟨ok_meet, consG2_ok⟩
end Go.Proofs.YtaaehcohmdojgaaGreatDoor

/-
  gessoref01: Add.
-/
namespace Go.Proofs.YtaaehcohmdojgaaGreatDoor
open Go.RowKit Go.Shelf

theorem cell_new (w : World) (v : Value) (t : TypeId) : (w.alloc (.cells #[v] t)).cell? ⟨w.heap.size, 0, none⟩ = some v := (heap_cell (heap_alloc_new w _) 0).trans rfl
/-- One limb of 32 bits behind those of a row of the call's own. -/
theorem wpList_limb32 {W w0 : World} {ops : Array Oper} {rest : List Oper} {o : Oper} {a : Act} {Q : Exit → Act → World → Prop} (hgd : o.guard = none) (s x : Operand)
    (ho : o.op = .call { callee := .builtin .append, args := #[s, x], argTypes := #[33, 33] }) (v : Value) (l : List Nat) (hs : a.eval s = v) (hown : O32 W w0.heap.size v l) (hb : Bel w0 W)
    (g : Nat) (hx : a.eval x = .slice (some ⟨g, 0, none⟩) 1 1) (hg : g = W.heap.size) (y : Nat) (hy : y < B32) (hl : l.length < 1000000000000)
    (h : ∀ g' c w', O32 w' w0.heap.size (.slice (some ⟨g', 0, none⟩) (l.length + 1) c) (l ++ [y]) → Bel w0 w' → wpList Tryz.prog ops Q rest (a.put o.dst (.slice (some ⟨g', 0, none⟩) (l.length + 1) c)) w') :
    wpList Tryz.prog ops Q (o :: rest) a (W.alloc (.cells #[.int .u32 (y : Int)] 120)) := by
  subst hg
  exact wpList_limbs32 hgd s x 33 Tryz.underlying33 ho v l hs (hown.bel ((Bel.refl W).alloc _)) (hb.alloc _) W.heap.size 1 1 hx [y] rfl (by decide)
    (fun j z hj => by
      match j, hj with
      | 0, hj => simp at hj; subst hj; exact cell_new W _ _
      | j + 1, hj => simp at hj) (fun z hz => by simp at hz; subst hz; exact hy) hl (by decide) h
theorem run_make32 (C : Nat) (hC : C ≤ 1000000000000) (w : World) : (Instr.makeSlice 33 (.int .i64 0) (.int .i64 (C : Int))).run Tryz.prog w =
    .ok (.slice (some ⟨w.heap.size, 0, none⟩) 0 C) (w.alloc (.cells (madeCells #[.int .u32 0] (C * 1)) 120)) := by
  obtain ⟨i0, hi, hz0, hz1, hz2⟩ := info_parts infoU32
  have h := run_make (P := Tryz.prog) w 33 120 i0 (.int .u32 0) Tryz.underlying33 hi hz0 .i64 .i64 0 C (by omega) (by omega) (by rw [hz2]; omega) (by omega)
  rw [hz1] at h
  simp only [Int.toNat_natCast] at h
  exact h
theorem make_own32 (w : World) (N : Nat) (hN : N ≤ maxLen) : O32 (w.alloc (.cells (madeCells #[.int .u32 0] (N * 1)) 120)) w.heap.size (.slice (some ⟨w.heap.size, 0, none⟩) 0 N) [] :=
  (made_own32 w N hN).take (m := 0) (by simp)
theorem u32_of {v : Nat} : IntKind.u32.wrap (v : Int) = ((v % B32 : Nat) : Int) := by
  rw [IntKind.wrap_u32]
  unfold B32
  omega
theorem shr32 {v : Nat} : (v : Int) / 4294967296 = ((v / B32 : Nat) : Int) := rfl
theorem limb_get {l : List Nat} {i : Nat} (h : i < l.length) : l[i]? = some (limbL l i) := by
  unfold limbL
  rw [List.getElem?_eq_getElem h]
  rfl
theorem limb_out {l : List Nat} {i : Nat} (h : ¬ i < l.length) : limbL l i = 0 := by
  unfold limbL
  rw [List.getElem?_eq_none (by omega)]
  rfl
set_option maxHeartbeats 4000000 in
set_option maxRecDepth 100000 in
theorem radd_any (p1 p2 : Option Addr) (c1 c2 : Nat) (l1 l2 : List Nat) (w : World) (h1 : R32 w (.slice p1 l1.length c1) l1) (h2 : R32 w (.slice p2 l2.length c2) l2) (hl1 : l1.length < 1000000000) (hl2 : l2.length < 1000000000) :
    Calls Tryz.prog 157 #[.slice p1 l1.length c1, .slice p2 l2.length c2] w fun e w' => ∃ p c, e = .returned (.slice p (limB B32 (valB B32 l1 + valB B32 l2)).length c) ∧
      O32 w' w.heap.size (.slice p (limB B32 (valB B32 l1 + valB B32 l2)).length c) (limB B32 (valB B32 l1 + valB B32 l2)) ∧ Bel w w' := by
  have H1 := Lib.hid h1
  have H2 := Lib.hid h2
  have HA1 := Lib.hid h1.all
  have HA2 := Lib.hid h2.all
  obtain ⟨N, hN⟩ : ∃ N, max l1.length l2.length = N := ⟨_, rfl⟩
  have hN1 : N < 1000000000 := by omega
  have HN := Lib.hid hN
  have hmax : max (l1.length : Int) (l2.length : Int) = (N : Int) := by omega
  have HMK := Lib.hid (fun wx => run_make32 (N + 1) (by omega) wx)
  have hmk : ∀ wx, (Instr.makeSlice 33 (.int .i64 0) (.int .i64 ((N : Int) + 1))).run Tryz.prog wx = .ok (.slice (some ⟨wx.heap.size, 0, none⟩) 0 (N + 1)) (wx.alloc (.cells (madeCells #[.int .u32 0] ((N + 1) * 1)) 120)) := fun wx => HMK.out wx
  obtain ⟨Z, hZ⟩ : ∃ Z, madeCells #[.int .u32 0] ((N + 1) * 1) = Z := ⟨_, rfl⟩
  have HO0 := Lib.hid (make_own32 w (N + 1) (by unfold maxLen; omega))
  rw [hZ] at hmk HO0
  clear h1 h2 hN HMK hZ
  go_enter Tryz.func157, Tryz.ntmps157
  go_wp2
  go_loopg [5, 6, 7] (N + 1) (fun gf s5 s6 s7 wx => ∃ (i c : Nat) (o : List Nat) (p : Option Addr) (cp : Nat), s7 = .int .i64 i ∧ s6 = .int .u64 (c : Nat) ∧ c ≤ 1 ∧ s5 = .slice p o.length cp ∧ i ≤ N + 1 ∧ N + 1 ≤ i + gf ∧ (i = N + 1 → c = 0) ∧ o.length = i ∧ O32 wx w.heap.size (.slice p o.length cp) o ∧
    valB B32 o + c * B32 ^ i = valB B32 (l1.take i) + valB B32 (l2.take i) ∧ Bel w wx)
  case atStart => exact ⟨0, 0, [], some ⟨w.heap.size, 0, none⟩, N + 1, rfl, rfl, by omega, rfl, by omega, by omega, by omega, rfl, HO0.out, by simp [valB], (Bel.refl w).alloc _⟩
  case round =>
    obtain ⟨i, c, o, p, cp, rfl, rfl, hc, rfl, hi, hig, hic, ho, hown, hval, hb⟩ := hrel
    have HOWN := Lib.hid hown
    have HVAL := Lib.hid hval
    have HB := Lib.hid hb
    have HO := Lib.hid ho
    have hol : o.length < 2000000000 := by omega
    clear hown hval hb ho hmk HO0
    by_cases hgo : i < N ∨ 0 < c
    · have hiN : i ≤ N := by omega
      obtain ⟨gk', rfl⟩ : ∃ g, gk = g + 1 := ⟨gk - 1, by omega⟩
      have hX := limb_lt (B := B32) (by decide) HA1.out i
      have hY := limb_lt (B := B32) (by decide) HA2.out i
      have HST := Lib.hid (add_step HO.out HVAL.out)
      have R1 := Lib.hid (H1.out.bel HB.out)
      have R2 := Lib.hid (H2.out.bel HB.out)
      have G1 := Lib.hid (fun h => limb_get (l := l1) (i := i) h)
      have G2 := Lib.hid (fun h => limb_get (l := l2) (i := i) h)
      have Z1 := Lib.hid (fun h => limb_out (l := l1) (i := i) h)
      have Z2 := Lib.hid (fun h => limb_out (l := l2) (i := i) h)
      obtain ⟨X, hX'⟩ : ∃ X, limbL l1 i = X := ⟨_, rfl⟩
      obtain ⟨Y, hY'⟩ : ∃ Y, limbL l2 i = Y := ⟨_, rfl⟩
      rw [hX'] at hX HST G1 Z1
      rw [hY'] at hY HST G2 Z2
      have hXB : X < 4294967296 := hX
      have hYB : Y < 4294967296 := hY
      have e0 : X + Y + c = c + X + Y := by omega
      rw [e0] at HST
      have hS6 : (c + X + Y) % B32 < B32 := Nat.mod_lt _ (by decide)
      have hD1 : (c + X + Y) / B32 ≤ 1 := by
        have : (c + X + Y) / B32 < 2 := by rw [Nat.div_lt_iff_lt_mul (by decide)]; unfold B32; omega
        omega
      have hDN : i = N → (c + X + Y) / B32 = 0 := fun h => by
        have hx0 := Z1.out (by have := HN.out; omega)
        have hy0 := Z2.out (by have := HN.out; omega)
        rw [hx0, hy0]
        exact Nat.div_eq_of_lt (by unfold B32; omega)
      have hw := u32_of (v := c + X + Y)
      have hsh := shr32 (v := c + X + Y)
      simp only [Int.natCast_add] at hw hsh
      obtain ⟨S, hS⟩ : ∃ S, (c + X + Y) % B32 = S := ⟨_, rfl⟩
      obtain ⟨D, hD⟩ : ∃ D, (c + X + Y) / B32 = D := ⟨_, rfl⟩
      rw [hS] at hw HST hS6
      rw [hD] at hsh HST hD1 hDN
      have HGO := Lib.hid hgo
      have HHN := Lib.hid hDN
      have hFIN : Hid (∀ g3 c3 w3, O32 w3 w.heap.size (.slice (some ⟨g3, 0, none⟩) (o.length + 1) c3) (o ++ [S]) → Bel w w3 → ∃ (i' c' : Nat) (o' : List Nat) (p' : Option Addr) (cp' : Nat), (Value.int .i64 ((i : Int) + 1)) = .int .i64 i' ∧ (Value.int .u64 (D : Nat)) = .int .u64 (c' : Nat) ∧ c' ≤ 1 ∧ (Value.slice (some ⟨g3, 0, none⟩) (o.length + 1) c3) = .slice p' o'.length cp' ∧ i' ≤ N + 1 ∧ N + 1 ≤ i' + gk' ∧ (i' = N + 1 → c' = 0) ∧ o'.length = i' ∧ O32 w3 w.heap.size (.slice p' o'.length cp') o' ∧
          valB B32 o' + c' * B32 ^ i' = valB B32 (l1.take i') + valB B32 (l2.take i') ∧ Bel w w3) := fun g3 c3 w3 ho3 hb3 => by
        have hlen : (o ++ [S]).length = o.length + 1 := by simp
        exact ⟨i + 1, D, o ++ [S], some ⟨g3, 0, none⟩, c3, by rw [Int.natCast_add]; rfl, rfl, hD1, by rw [hlen], by omega, by omega, fun h => HHN.out (by omega), by rw [hlen, HO.out], by rw [hlen]; exact ho3, HST.out, hb3⟩
      clear hX hY hX' hY' hS hD e0 hgo hDN HST HHN
      by_cases a1 : i < l1.length
      · obtain ⟨b1, o1, d1, he1, -, q1, -⟩ := R1.out.at (G1.out a1)
        simp only [Value.slice.injEq] at he1
        obtain ⟨rfl, -, rfl⟩ := he1
        have hiN2 : i < N := by have := HN.out; omega
        by_cases a2 : i < l2.length
        · obtain ⟨b2, o2, d2, he2, -, q2, -⟩ := R2.out.at (G2.out a2)
          simp only [Value.slice.injEq] at he2
          obtain ⟨rfl, -, rfl⟩ := he2
          go_wp2_with (at_builtin; (refine wpList_limb32 (W := wr) (w0 := w) rfl (.tmp 52) (.tmp 55) rfl (.slice p o.length cp) o rfl HOWN.out HB.out _ rfl rfl S hS6 (by omega) ?_); intro g3 c3 w3 ho3 hb3; have HR3 := Lib.hid (hFIN.out g3 c3 w3 ho3 hb3); clear ho3 hb3)
          go_roundg gk'
          case measure => omega
          case rel => exact HR3.out
        · obtain rfl := Z2.out a2
          replace hw : IntKind.u32.wrap ((c : Int) + (X : Int)) = (S : Int) := by rw [← hw]; congr 1
          replace hsh : ((c : Int) + (X : Int)) / 4294967296 = (D : Int) := by rw [← hsh]; congr 1
          go_wp2_with (at_builtin; (refine wpList_limb32 (W := wr) (w0 := w) rfl (.tmp 52) (.tmp 55) rfl (.slice p o.length cp) o rfl HOWN.out HB.out _ rfl rfl S hS6 (by omega) ?_); intro g3 c3 w3 ho3 hb3; have HR3 := Lib.hid (hFIN.out g3 c3 w3 ho3 hb3); clear ho3 hb3)
          go_roundg gk'
          case measure => omega
          case rel => exact HR3.out
      · obtain rfl := Z1.out a1
        by_cases a2 : i < l2.length
        · obtain ⟨b2, o2, d2, he2, -, q2, -⟩ := R2.out.at (G2.out a2)
          simp only [Value.slice.injEq] at he2
          obtain ⟨rfl, -, rfl⟩ := he2
          have hiN2 : i < N := by have := HN.out; omega
          replace hw : IntKind.u32.wrap ((c : Int) + (Y : Int)) = (S : Int) := by rw [← hw]; congr 1
          replace hsh : ((c : Int) + (Y : Int)) / 4294967296 = (D : Int) := by rw [← hsh]; congr 1
          go_wp2_with (at_builtin; (refine wpList_limb32 (W := wr) (w0 := w) rfl (.tmp 52) (.tmp 55) rfl (.slice p o.length cp) o rfl HOWN.out HB.out _ rfl rfl S hS6 (by omega) ?_); intro g3 c3 w3 ho3 hb3; have HR3 := Lib.hid (hFIN.out g3 c3 w3 ho3 hb3); clear ho3 hb3)
          go_roundg gk'
          case measure => omega
          case rel => exact HR3.out
        · obtain rfl := Z2.out a2
          have hiN2 : ¬ i < N := by have := HN.out; omega
          have hc0 : 0 < c := HGO.out.resolve_left hiN2
          replace hw : IntKind.u32.wrap (c : Int) = (S : Int) := by rw [← hw]; congr 1
          replace hsh : (c : Int) / 4294967296 = (D : Int) := by rw [← hsh]; congr 1
          go_wp2_with (at_builtin; (refine wpList_limb32 (W := wr) (w0 := w) rfl (.tmp 52) (.tmp 55) rfl (.slice p o.length cp) o rfl HOWN.out HB.out _ rfl rfl S hS6 (by omega) ?_); intro g3 c3 w3 ho3 hb3; have HR3 := Lib.hid (hFIN.out g3 c3 w3 ho3 hb3); clear ho3 hb3)
          go_roundg gk'
          case measure => omega
          case rel => exact HR3.out
    · have hiN2 : ¬ i < N := fun h => hgo (.inl h)
      have hc0 : c = 0 := by omega
      subst hc0
      have hval : valB B32 o = valB B32 l1 + valB B32 l2 := by
        have h := HVAL.out
        rw [List.take_of_length_le (by have := HN.out; omega), List.take_of_length_le (by have := HN.out; omega), Nat.zero_mul, Nat.add_zero] at h
        exact h
      have hfin : limB B32 (valB B32 l1 + valB B32 l2) = trimL o := by rw [← hval, lim_val b32_two HOWN.out.2]
      have HF := Lib.hid hfin
      clear hval hfin hgo
      go_wp2_with (go_at_call 91; (with_reducible refine (rtrim_any _ _ o _ HOWN.out.row (by omega)).mono ?_); rintro e w4 ⟨rfl, hw4⟩; obtain rfl := hw4.symm)
      go_ret
      rw [HF.out]
      refine ⟨p, cp, rfl, ?_, HB.out⟩
      have h := HOWN.out.take (trim_len o)
      rwa [← trim_prefix] at h
end Go.Proofs.YtaaehcohmdojgaaGreatDoor
