/-
  Plain facts on the reading of parts: how many there are, what is left.
-/
import Derived.Test.YtefajplbgmikdaaDoorPathSpec
namespace Go.Proofs.YtefajplbgmikdaaDoor

def wt : List Tok → Nat
  | [] => 0
  | t :: l => wt l + t.s.length + 1
theorem wt_ge : ∀ l, l.length ≤ wt l
  | [] => Nat.le_refl _
  | t :: l => by have := wt_ge l; simp [wt]; omega
theorem take_wt {en : Int} : ∀ {n : Nat} {l a r : List Tok}, takeNums en n l = .ok (a, r) → wt r + n ≤ wt l ∧ r.length + n = l.length ∧ a.length = n ∧ l = a ++ r ∧ ∀ t ∈ a, t.kind = 2
  | 0, l, a, r, h => by
    simp only [takeNums, Except.ok.injEq, Prod.mk.injEq] at h
    obtain ⟨rfl, rfl⟩ := h
    simp
  | n + 1, [], a, r, h => by simp [takeNums] at h
  | n + 1, t :: l, a, r, h => by
    rw [takeNums] at h
    split at h
    · rename_i hk
      split at h
      · rename_i a' r' he
        simp only [Except.ok.injEq, Prod.mk.injEq] at h
        obtain ⟨rfl, rfl⟩ := h
        have := take_wt he
        refine ⟨by simp [wt]; omega, by simp; omega, by simp; omega, by simp [this.2.2.2.1], fun x hx => ?_⟩
        rcases List.mem_cons.1 hx with rfl | hx
        · exact hk
        · exact this.2.2.2.2 x hx
      · cases h
    · cases h
theorem once_wt {en : Int} {x : Rl} {sm : Bool} {pl : Int} {l l' : List Tok} {ps ps' : List Part} (h : onceS en x sm pl l ps = .ok (l', ps')) : wt l' + x.count ≤ wt l ∧ l'.length + x.count = l.length ∧ ps'.length = ps.length + 1 := by
  unfold onceS at h
  split at h
  · rename_i a r he
    simp only [Except.ok.injEq, Prod.mk.injEq] at h
    obtain ⟨rfl, rfl⟩ := h
    have := take_wt he
    exact ⟨this.1, this.2.1, by simp⟩
  · cases h
theorem again_wt {en : Int} {x : Rl} {sm : Bool} : ∀ {f : Nat} {l l' : List Tok} {ps ps' : List Part}, againS en x sm f l ps = .ok (l', ps') → ps'.length + wt l' ≤ ps.length + wt l ∧ l'.length ≤ l.length
  | 0, l, l', ps, ps', h => by
    simp only [againS, Except.ok.injEq, Prod.mk.injEq] at h
    obtain ⟨rfl, rfl⟩ := h
    exact ⟨Nat.le_refl _, Nat.le_refl _⟩
  | f + 1, l, l', ps, ps', h => by
    rw [againS] at h
    split at h
    · rename_i hc
      split at h
      · rename_i l2 ps2 he
        have h1 := once_wt he
        have h2 := again_wt h
        omega
      · cases h
    · simp only [Except.ok.injEq, Prod.mk.injEq] at h
      obtain ⟨rfl, rfl⟩ := h
      exact ⟨Nat.le_refl _, Nat.le_refl _⟩
theorem letter_wt {en : Int} {c : Nat} {pl : Int} {more : Bool} {l l' : List Tok} {ps ps' : List Part} (h : letterS en c pl more l ps = .ok (l', ps')) : ps'.length + wt l' ≤ ps.length + wt l + 1 ∧ l'.length ≤ l.length := by
  unfold letterS at h
  split at h
  · cases h
  · split at h
    · cases h
    · split at h
      · cases h
      · split at h
        · rename_i l2 ps2 he
          have h1 := once_wt he
          have h2 := again_wt h
          omega
        · cases h
theorem word_wt {en : Int} : ∀ {s : List UInt8} {pl : Int} {l l' : List Tok} {ps ps' : List Part}, wordS en s pl l ps = .ok (l', ps') → ps'.length + wt l' ≤ ps.length + wt l + s.length ∧ l'.length ≤ l.length
  | [], pl, l, l', ps, ps', h => by
    simp only [wordS, Except.ok.injEq, Prod.mk.injEq] at h
    obtain ⟨rfl, rfl⟩ := h
    simp
  | c :: cs, pl, l, l', ps, ps', h => by
    rw [wordS] at h
    split at h
    · rename_i l2 ps2 he
      have h1 := letter_wt he
      have h2 := word_wt h
      simp; omega
    · cases h
/-- What holds of all tokens holds of what is left. -/
theorem take_all {en : Int} {p : Tok → Prop} {n : Nat} {l a r : List Tok} (h : takeNums en n l = .ok (a, r)) (hp : ∀ t ∈ l, p t) : (∀ t ∈ a, p t) ∧ ∀ t ∈ r, p t := by
  obtain ⟨_, _, _, rfl, _⟩ := take_wt h
  exact ⟨fun t ht => hp t (by simp [ht]), fun t ht => hp t (by simp [ht])⟩

/-- What every part is. -/
def PartOk (p : Tok → Prop) (x : Part) : Prop := x.r ∈ rulesL ∧ x.nums.length = x.r.count ∧ ∀ t ∈ x.nums, t.kind = 2 ∧ p t
theorem once_ok {en : Int} {p : Tok → Prop} {x : Rl} {sm : Bool} {pl : Int} {l l' : List Tok} {ps ps' : List Part} (hx : x ∈ rulesL) (h : onceS en x sm pl l ps = .ok (l', ps')) (hl : ∀ t ∈ l, p t) (hps : ∀ y ∈ ps, PartOk p y) :
    (∀ t ∈ l', p t) ∧ ∀ y ∈ ps', PartOk p y := by
  unfold onceS at h
  split at h
  · rename_i a r he
    simp only [Except.ok.injEq, Prod.mk.injEq] at h
    obtain ⟨rfl, rfl⟩ := h
    have h1 := take_wt he
    have h2 := take_all he hl
    refine ⟨h2.2, fun y hy => ?_⟩
    rcases List.mem_append.1 hy with hy | hy
    · exact hps y hy
    · rw [List.mem_singleton.1 hy]
      exact ⟨hx, h1.2.2.1, fun t ht => ⟨h1.2.2.2.2 t ht, h2.1 t ht⟩⟩
  · cases h
theorem again_ok {en : Int} {p : Tok → Prop} {x : Rl} {sm : Bool} (hx : x ∈ rulesL) : ∀ {f : Nat} {l l' : List Tok} {ps ps' : List Part}, againS en x sm f l ps = .ok (l', ps') → (∀ t ∈ l, p t) → (∀ y ∈ ps, PartOk p y) →
    (∀ t ∈ l', p t) ∧ ∀ y ∈ ps', PartOk p y
  | 0, l, l', ps, ps', h, h1, h2 => by
    simp only [againS, Except.ok.injEq, Prod.mk.injEq] at h
    obtain ⟨rfl, rfl⟩ := h
    exact ⟨h1, h2⟩
  | f + 1, l, l', ps, ps', h, h1, h2 => by
    rw [againS] at h
    split at h
    · split at h
      · rename_i l2 ps2 he
        have h3 := once_ok hx he h1 h2
        exact again_ok hx h h3.1 h3.2
      · cases h
    · simp only [Except.ok.injEq, Prod.mk.injEq] at h
      obtain ⟨rfl, rfl⟩ := h
      exact ⟨h1, h2⟩
theorem letter_ok {en : Int} {p : Tok → Prop} {c : Nat} {pl : Int} {more : Bool} {l l' : List Tok} {ps ps' : List Part} (h : letterS en c pl more l ps = .ok (l', ps')) (h1 : ∀ t ∈ l, p t) (h2 : ∀ y ∈ ps, PartOk p y) :
    (∀ t ∈ l', p t) ∧ ∀ y ∈ ps', PartOk p y := by
  unfold letterS at h
  split at h
  · cases h
  · rename_i x hx
    have hm : x ∈ rulesL := List.mem_of_find?_eq_some hx
    split at h
    · cases h
    · split at h
      · cases h
      · split at h
        · rename_i l2 ps2 he
          have h3 := once_ok hm he h1 h2
          refine again_ok ?_ h h3.1 h3.2
          split
          · decide
          · exact hm
        · cases h
theorem once_toks {en : Int} {p : Tok → Prop} {x : Rl} {sm : Bool} {pl : Int} {l l' : List Tok} {ps ps' : List Part} (h : onceS en x sm pl l ps = .ok (l', ps')) (hl : ∀ t ∈ l, p t) : ∀ t ∈ l', p t := by
  unfold onceS at h
  split at h
  · rename_i a r he
    simp only [Except.ok.injEq, Prod.mk.injEq] at h
    obtain ⟨rfl, rfl⟩ := h
    exact (take_all he hl).2
  · cases h
theorem again_toks {en : Int} {p : Tok → Prop} {x : Rl} {sm : Bool} : ∀ {f : Nat} {l l' : List Tok} {ps ps' : List Part}, againS en x sm f l ps = .ok (l', ps') → (∀ t ∈ l, p t) → ∀ t ∈ l', p t
  | 0, l, l', ps, ps', h, h1 => by
    simp only [againS, Except.ok.injEq, Prod.mk.injEq] at h
    obtain ⟨rfl, rfl⟩ := h
    exact h1
  | f + 1, l, l', ps, ps', h, h1 => by
    rw [againS] at h
    split at h
    · split at h
      · rename_i l2 ps2 he
        exact again_toks h (once_toks he h1)
      · cases h
    · simp only [Except.ok.injEq, Prod.mk.injEq] at h
      obtain ⟨rfl, rfl⟩ := h
      exact h1
theorem letter_toks {en : Int} {p : Tok → Prop} {c : Nat} {pl : Int} {more : Bool} {l l' : List Tok} {ps ps' : List Part} (h : letterS en c pl more l ps = .ok (l', ps')) (h1 : ∀ t ∈ l, p t) : ∀ t ∈ l', p t := by
  unfold letterS at h
  split at h
  · cases h
  · split at h
    · cases h
    · split at h
      · cases h
      · split at h
        · rename_i l2 ps2 he
          exact again_toks h (once_toks he h1)
        · cases h
theorem word_ok {en : Int} {p : Tok → Prop} : ∀ {s : List UInt8} {pl : Int} {l l' : List Tok} {ps ps' : List Part}, wordS en s pl l ps = .ok (l', ps') → (∀ t ∈ l, p t) → (∀ y ∈ ps, PartOk p y) → (∀ t ∈ l', p t) ∧ ∀ y ∈ ps', PartOk p y
  | [], pl, l, l', ps, ps', h, h1, h2 => by
    simp only [wordS, Except.ok.injEq, Prod.mk.injEq] at h
    obtain ⟨rfl, rfl⟩ := h
    exact ⟨h1, h2⟩
  | c :: cs, pl, l, l', ps, ps', h, h1, h2 => by
    rw [wordS] at h
    split at h
    · rename_i l2 ps2 he
      have h3 := letter_ok he h1 h2
      exact word_ok h h3.1 h3.2
    · cases h
theorem read_ok {en : Int} {p : Tok → Prop} : ∀ {f : Nat} {l : List Tok} {ps ps' : List Part}, readS en f l ps = .ok ps' → (∀ t ∈ l, p t) → (∀ y ∈ ps, PartOk p y) → ∀ y ∈ ps', PartOk p y
  | f, [], ps, ps', h, h1, h2 => by
    have : readS en f [] ps = .ok ps := by cases f <;> rfl
    rw [this] at h
    simp only [Except.ok.injEq] at h
    subst h
    exact h2
  | 0, _ :: _, ps, ps', h, h1, h2 => by
    simp only [readS, Except.ok.injEq] at h
    subst h
    exact h2
  | f + 1, t :: l, ps, ps', h, h1, h2 => by
    rw [readS] at h
    split at h
    · cases h
    · split at h
      · cases h
      · split at h
        · rename_i l2 ps2 he
          have h3 := word_ok he (fun t ht => h1 t (by simp [ht])) h2
          exact read_ok h h3.1 h3.2
        · cases h
end Go.Proofs.YtefajplbgmikdaaDoor
