/-
  The plain laws of PtNear: how far a point is from a segment.
-/
import Derived.Test.YtafmfnpjhhaikaaGreatDoorZaz
namespace Go.Proofs.YtafmfnpjhhaikaaGreatDoor

theorem cmpR_le {x y : Rat} : ¬ 0 < cmpR x y ↔ x ≤ y := by
  unfold cmpR
  by_cases h : x < y
  · rw [if_pos h]
    exact ⟨fun _ => by grind, fun _ => by decide⟩
  · rw [if_neg h]
    by_cases h0 : x = y
    · rw [if_pos h0]
      exact ⟨fun _ => by grind, fun _ => by decide⟩
    · rw [if_neg h0]
      exact ⟨fun h => absurd (by decide) h, fun h1 => by exfalso; grind⟩
theorem cmpR_lt {x y : Rat} : cmpR x y < 0 ↔ x < y := by
  unfold cmpR
  by_cases h : x < y
  · rw [if_pos h]
    exact ⟨fun _ => h, fun _ => by decide⟩
  · rw [if_neg h]
    refine ⟨fun h1 => ?_, fun h1 => absurd h1 h⟩
    split at h1 <;> exact absurd h1 (by decide)
theorem cmpR_gt {x y : Rat} : 0 < cmpR x y ↔ y < x := by
  have := @cmpR_le x y
  constructor
  · intro h
    refine Rat.not_le.1 fun hle => ?_
    exact this.2 hle h
  · intro h
    refine Decidable.byContradiction fun hn => ?_
    have := this.1 hn
    grind
theorem sq_nonneg (x : Rat) : 0 ≤ x * x := by
  by_cases h : 0 ≤ x
  · exact Rat.mul_nonneg h h
  · have h' : 0 ≤ -x := by grind
    have := Rat.mul_nonneg h' h'
    grind
theorem far_nonneg (a b c d : Rat) : 0 ≤ farR a b c d := by
  have h1 := sq_nonneg (a - c)
  have h2 := sq_nonneg (b - d)
  unfold farR
  grind
theorem far_zero {a b c d : Rat} (h : farR a b c d = 0) : a = c ∧ b = d := by
  have h1 := sq_nonneg (a - c)
  have h2 := sq_nonneg (b - d)
  unfold farR at h
  have e1 : (a - c) * (a - c) = 0 := by grind
  have e2 : (b - d) * (b - d) = 0 := by grind
  have z : ∀ x : Rat, x * x = 0 → x = 0 := fun x hx => by
    rcases Rat.mul_eq_zero.1 hx with h | h <;> exact h
  have := z _ e1
  have := z _ e2
  exact ⟨by grind, by grind⟩
section
variable (px py ax ay bx cy : Rat)
/-- What segR is: at the foot of the point, or at an end. -/
theorem seg_cases : (bx = ax ∧ cy = ay ∧ segR px py ax ay bx cy = farR px py ax ay) ∨
    ∃ D t : Rat, D = (bx - ax) * (bx - ax) + (cy - ay) * (cy - ay) ∧ 0 < D ∧ t * D = (px - ax) * (bx - ax) + (py - ay) * (cy - ay) ∧ t = tSeg px py ax ay bx cy ∧
      ((t < 0 ∧ segR px py ax ay bx cy = farR px py ax ay) ∨ (1 < t ∧ segR px py ax ay bx cy = farR px py bx cy) ∨ (0 ≤ t ∧ t ≤ 1 ∧ segR px py ax ay bx cy = farR px py (ax + (bx - ax) * t) (ay + (cy - ay) * t))) := by
  by_cases h0 : (bx - ax) * (bx - ax) + (cy - ay) * (cy - ay) = 0
  · left
    have h : farR bx cy ax ay = 0 := h0
    obtain ⟨h1, h2⟩ := far_zero h
    exact ⟨h1, h2, segR_zero h0⟩
  · right
    have h1 := far_nonneg bx cy ax ay
    unfold farR at h1
    refine ⟨_, tSeg px py ax ay bx cy, rfl, by grind, ?_, rfl, ?_⟩
    · unfold tSeg
      exact Rat.div_mul_cancel h0
    · unfold segR
      generalize tSeg px py ax ay bx cy = t
      by_cases h2 : t < 0
      · exact .inl ⟨h2, by rw [if_pos (cmpR_lt.2 h2)]⟩
      · rw [if_neg (fun h => h2 (cmpR_lt.1 h))]
        by_cases h3 : 1 < t
        · exact .inr (.inl ⟨h3, by rw [if_pos (cmpR_gt.2 h3)]⟩)
        · rw [if_neg (fun h => h3 (cmpR_gt.1 h))]
          exact .inr (.inr ⟨by grind, by grind, rfl⟩)
theorem near1 (k : Rat) (hk0 : 0 ≤ k) (hk1 : k ≤ 1) : ¬ 0 < cmpR (segR px py ax ay bx cy) (farR px py (ax + (bx - ax) * k) (ay + (cy - ay) * k)) := by
  rw [cmpR_le]
  rcases seg_cases px py ax ay bx cy with ⟨rfl, rfl, h⟩ | ⟨D, t, hD, hp, hN, -, hc⟩
  · rw [h]
    unfold farR
    grind
  · have e : farR px py (ax + (bx - ax) * k) (ay + (cy - ay) * k) = farR px py ax ay - 2 * k * (t * D) + k * k * D := by
      rw [hN, hD]
      unfold farR
      grind
    rw [e]
    rcases hc with ⟨ht, h⟩ | ⟨ht, h⟩ | ⟨ht0, ht1, h⟩
    · rw [h]
      have h1 : 0 ≤ k * k * D := Rat.mul_nonneg (sq_nonneg k) (Rat.le_of_lt hp)
      have h2 : 0 ≤ k * (-t * D) := Rat.mul_nonneg hk0 (Rat.mul_nonneg (by grind) (Rat.le_of_lt hp))
      grind
    · rw [h]
      have e2 : farR px py bx cy = farR px py ax ay - 2 * (t * D) + D := by
        rw [hN, hD]
        unfold farR
        grind
      rw [e2]
      have h1 : 0 ≤ (1 - k) * ((2 * t - 1 - k) * D) := Rat.mul_nonneg (by grind) (Rat.mul_nonneg (by grind) (Rat.le_of_lt hp))
      grind
    · rw [h]
      have e2 : farR px py (ax + (bx - ax) * t) (ay + (cy - ay) * t) = farR px py ax ay - t * t * D := by
        have : farR px py (ax + (bx - ax) * t) (ay + (cy - ay) * t) = farR px py ax ay - 2 * t * (t * D) + t * t * D := by
          rw [hN, hD]
          unfold farR
          grind
        rw [this]
        grind
      rw [e2]
      have h1 : 0 ≤ (k - t) * (k - t) * D := Rat.mul_nonneg (sq_nonneg _) (Rat.le_of_lt hp)
      grind
theorem seg_nonneg : 0 ≤ segR px py ax ay bx cy := by
  rcases seg_cases px py ax ay bx cy with ⟨-, -, h⟩ | ⟨D, t, hD, hp, hN, -, ⟨-, h⟩ | ⟨-, h⟩ | ⟨-, -, h⟩⟩ <;> rw [h] <;> exact far_nonneg _ _ _ _
theorem near2 : ¬ cmpR (segR px py ax ay bx cy) 0 < 0 := by
  rw [cmpR_lt]
  have := seg_nonneg px py ax ay bx cy
  grind
theorem near3 (k : Rat) (hk0 : 0 ≤ k) (hk1 : k ≤ 1) : cmpR (segR (ax + (bx - ax) * k) (ay + (cy - ay) * k) ax ay bx cy) 0 = 0 := by
  rw [cmpR_eq]
  have h1 := near1 (ax + (bx - ax) * k) (ay + (cy - ay) * k) ax ay bx cy k hk0 hk1
  rw [cmpR_le] at h1
  have h2 : farR (ax + (bx - ax) * k) (ay + (cy - ay) * k) (ax + (bx - ax) * k) (ay + (cy - ay) * k) = 0 := by
    unfold farR
    grind
  have h3 := seg_nonneg (ax + (bx - ax) * k) (ay + (cy - ay) * k) ax ay bx cy
  grind
theorem near4 : segR px py ax ay bx cy = segR px py bx cy ax ay := by
  have key : ∀ px py ax ay bx cy : Rat, segR px py ax ay bx cy ≤ segR px py bx cy ax ay := fun px py ax ay bx cy => by
    have hk : ∀ k, 0 ≤ k → k ≤ 1 → segR px py ax ay bx cy ≤ farR px py (ax + (bx - ax) * k) (ay + (cy - ay) * k) := fun k h0 h1 => cmpR_le.1 (near1 px py ax ay bx cy k h0 h1)
    have ha := hk 0 (by grind) (by grind)
    have hb := hk 1 (by grind) (by grind)
    rw [show ax + (bx - ax) * 0 = ax by grind, show ay + (cy - ay) * 0 = ay by grind] at ha
    rw [show ax + (bx - ax) * 1 = bx by grind, show ay + (cy - ay) * 1 = cy by grind] at hb
    rcases seg_cases px py bx cy ax ay with ⟨-, -, h⟩ | ⟨D, t, hD, hp, hN, -, ⟨-, h⟩ | ⟨-, h⟩ | ⟨h0, h1, h⟩⟩ <;> rw [h]
    · exact hb
    · exact hb
    · exact ha
    · have := hk (1 - t) (by grind) (by grind)
      rw [show ax + (bx - ax) * (1 - t) = bx + (ax - bx) * t by grind, show ay + (cy - ay) * (1 - t) = cy + (ay - cy) * t by grind] at this
      exact this
  have h1 := key px py ax ay bx cy
  have h2 := key px py bx cy ax ay
  grind
theorem near5 (h : segR px py ax ay bx cy = 0) : cmpR ((bx - ax) * (py - ay) - (cy - ay) * (px - ax)) 0 = 0 ∧ ¬ 0 < cmpR ((px - ax) * (px - bx) + (py - ay) * (py - cy)) 0 := by
  rw [cmpR_eq, cmpR_le]
  rcases seg_cases px py ax ay bx cy with ⟨-, -, e⟩ | ⟨D, t, hD, hp, hN, -, ⟨-, e⟩ | ⟨-, e⟩ | ⟨h0, h1, e⟩⟩ <;> rw [e] at h <;> obtain ⟨e1, e2⟩ := far_zero h
  · subst e1; subst e2; exact ⟨by grind, by grind⟩
  · subst e1; subst e2; exact ⟨by grind, by grind⟩
  · subst e1; subst e2; exact ⟨by grind, by grind⟩
  · have f1 : px - ax = (bx - ax) * t := by grind
    have f2 : py - ay = (cy - ay) * t := by grind
    have f3 : px - bx = (bx - ax) * (t - 1) := by grind
    have f4 : py - cy = (cy - ay) * (t - 1) := by grind
    rw [f1, f2, f3, f4]
    refine ⟨by grind, ?_⟩
    have h2 : 0 ≤ t * ((1 - t) * D) := Rat.mul_nonneg h0 (Rat.mul_nonneg (by grind) (Rat.le_of_lt hp))
    rw [hD] at h2
    grind
theorem near6 (ho : (bx - ax) * (py - ay) - (cy - ay) * (px - ax) = 0) (hd : (px - ax) * (px - bx) + (py - ay) * (py - cy) ≤ 0) (hs : ¬ (ax = bx ∧ ay = cy)) : segR px py ax ay bx cy = 0 := by
  rcases seg_cases px py ax ay bx cy with ⟨e1, e2, e⟩ | ⟨D, t, hD, hp, hN, -, hc⟩
  · exact absurd ⟨e1.symm, e2.symm⟩ hs
  · have hne : D ≠ 0 := by grind
    have f1 : (px - ax) * D = (bx - ax) * t * D := by
      rw [show (bx - ax) * t * D = (bx - ax) * (t * D) by grind, hN, hD]
      grind
    have f2 : (py - ay) * D = (cy - ay) * t * D := by
      rw [show (cy - ay) * t * D = (cy - ay) * (t * D) by grind, hN, hD]
      grind
    have g1 : px = ax + (bx - ax) * t := by
      have h3 : (px - ax - (bx - ax) * t) * D = 0 := by grind
      rcases Rat.mul_eq_zero.1 h3 with h3 | h3
      · grind
      · exact absurd h3 hne
    have g2 : py = ay + (cy - ay) * t := by
      have h3 : (py - ay - (cy - ay) * t) * D = 0 := by grind
      rcases Rat.mul_eq_zero.1 h3 with h3 | h3
      · grind
      · exact absurd h3 hne
    have hq : t * ((t - 1) * D) ≤ 0 := by
      rw [g1, g2] at hd
      rw [hD]
      grind
    have h0 : 0 ≤ t := by
      refine Rat.not_lt.1 fun hlt => ?_
      have : 0 < (-t) * ((1 - t) * D) := Rat.mul_pos (by grind) (Rat.mul_pos (by grind) hp)
      grind
    have h1 : t ≤ 1 := by
      refine Rat.not_lt.1 fun hlt => ?_
      have : 0 < t * ((t - 1) * D) := Rat.mul_pos (by grind) (Rat.mul_pos (by grind) hp)
      grind
    rcases hc with ⟨ht, e⟩ | ⟨ht, e⟩ | ⟨-, -, e⟩
    · exfalso; grind
    · exfalso; grind
    · rw [e, ← g1, ← g2]
      unfold farR
      grind
theorem near_cases : (cmpR (segR px py ax ay bx cy) 0 = 0 ∧ cmpR ((bx - ax) * (py - ay) - (cy - ay) * (px - ax)) 0 = 0 ∧ cmpR ((px - ax) * (px - bx) + (py - ay) * (py - cy)) 0 ≤ 0) ∨ (¬ cmpR (segR px py ax ay bx cy) 0 = 0 ∧ cmpR ((bx - ax) * (py - ay) - (cy - ay) * (px - ax)) 0 ≠ 0) ∨
    (¬ cmpR (segR px py ax ay bx cy) 0 = 0 ∧ ¬ cmpR ((bx - ax) * (py - ay) - (cy - ay) * (px - ax)) 0 ≠ 0 ∧ cmpR ((px - ax) * (px - bx) + (py - ay) * (py - cy)) 0 > 0) ∨
    (¬ cmpR (segR px py ax ay bx cy) 0 = 0 ∧ ¬ cmpR ((bx - ax) * (py - ay) - (cy - ay) * (px - ax)) 0 ≠ 0 ∧ ¬ cmpR ((px - ax) * (px - bx) + (py - ay) * (py - cy)) 0 > 0 ∧ decide (ax = bx ∧ ay = cy) = true) := by
  by_cases h0 : segR px py ax ay bx cy = 0
  · obtain ⟨h1, h2⟩ := near5 _ _ _ _ _ _ h0
    exact .inl ⟨cmpR_eq.2 h0, h1, Int.not_lt.1 h2⟩
  · have k0 : ¬ cmpR (segR px py ax ay bx cy) 0 = 0 := fun h => h0 (cmpR_eq.1 h)
    by_cases h1 : cmpR ((bx - ax) * (py - ay) - (cy - ay) * (px - ax)) 0 = 0
    · by_cases h2 : 0 < cmpR ((px - ax) * (px - bx) + (py - ay) * (py - cy)) 0
      · exact .inr (.inr (.inl ⟨k0, fun h => h h1, h2⟩))
      · by_cases h3 : ax = bx ∧ ay = cy
        · exact .inr (.inr (.inr ⟨k0, fun h => h h1, h2, decide_eq_true h3⟩))
        · exact absurd (near6 _ _ _ _ _ _ (cmpR_eq.1 h1) (cmpR_le.1 h2) h3) h0
    · exact .inr (.inl ⟨k0, h1⟩)
end
end Go.Proofs.YtafmfnpjhhaikaaGreatDoor
