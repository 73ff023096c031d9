/-
  The path of letters and numbers: capital letters, small letters from where the path stands. No model in this text.
-/
import Derived.Test.YtefajplbgmikdaaDoorTextBack
namespace Go.Proofs.YtefajplbgmikdaaDoor
open Go.Lib

def relN (sm : Bool) (p : Pen) : List Int → Nat → List Int
  | [], _ => []
  | v :: r, i => (if sm = true then v - (if i % 2 = 1 then p.y else p.x) else v) :: relN sm p r (i + 1)
def ruleK (k : Int) : Rl := if k = 1 then ⟨77, 2, 1⟩ else if k = 2 then ⟨76, 2, 2⟩ else if k = 3 then ⟨81, 4, 3⟩ else if k = 4 then ⟨67, 6, 4⟩ else if k = 5 then ⟨75, 5, 5⟩ else ⟨90, 0, 6⟩
def numsP (sm : Bool) (p : Pen) (s : Sg) : List Int := (if s.kind = 5 then [s.w] else []) ++ relN sm p (s.v.take (countK s.kind)) 0
def nextP (p : Pen) (s : Sg) : Pen := moveS p s (countK s.kind)
def itsP (sm : Bool) : List Sg → Pen → List It
  | [], _ => []
  | s :: r, p => ⟨if sm = true then letterB s.kind + 32 else letterB s.kind, ruleK s.kind, numsP sm p s⟩ :: itsP sm r (nextP p s)

theorem relN_len (sm : Bool) (p : Pen) : ∀ (l : List Int) (i : Nat), (relN sm p l i).length = l.length
  | [], _ => rfl
  | v :: r, i => by simp [relN, relN_len sm p r (i + 1)]
theorem relN_false (p : Pen) : ∀ (l : List Int) (i : Nat), relN false p l i = l
  | [], _ => rfl
  | v :: r, i => by simp [relN, relN_false p r (i + 1)]
theorem absL_rel {p : Pen} {x : Part} (hx : x.r.name ≠ 86) : ∀ (ts : List Tok) (vs : List Int) (i : Nat), ts.map Tok.n = relN x.small p vs i → (∀ v ∈ vs, inR v = true) → absL p x ts i = .ok vs
  | [], [], i, _, _ => rfl
  | [], v :: vs, i, h, _ => by simp [relN] at h
  | t :: ts, [], i, h, _ => by simp [relN] at h
  | t :: ts, v :: vs, i, h, hv => by
    simp only [List.map_cons, relN, List.cons.injEq] at h
    have hn : absN p x i t = v := by
      unfold absN
      rw [h.1]
      cases hs : x.small with
      | false => simp
      | true =>
        simp only [if_true, hx, or_false]
        by_cases h2 : i % 2 = 1
        · rw [if_pos h2, if_pos h2]; omega
        · rw [if_neg h2, if_neg h2]; omega
    rw [absL, hn, if_pos (hv v (by simp)), absL_rel hx ts vs (i + 1) h.2 (fun u hu => hv u (by simp [hu]))]
theorem goodN_in {c : Nat} : ∀ {l : List Int} {i : Nat}, goodN c l i = true → ∀ v ∈ l, inR v = true
  | [], _, _, v, hv => by simp at hv
  | u :: l, i, h, v, hv => by
    simp only [goodN, Bool.and_eq_true] at h
    rcases List.mem_cons.1 hv with rfl | hv
    · exact h.1.1
    · exact goodN_in h.2 v hv
theorem goodN_tail {c : Nat} : ∀ {l : List Int} {i : Nat}, goodN c l i = true → c ≤ i → l = List.replicate l.length 0
  | [], _, _, _ => rfl
  | u :: l, i, h, hi => by
    simp only [goodN, Bool.and_eq_true, Bool.or_eq_true, decide_eq_true_eq] at h
    rw [List.length_cons, List.replicate_succ, ← goodN_tail h.2 (by omega)]
    congr 1
    rcases h.1.2 with h | h
    · exact h
    · omega
theorem goodN_drop {c : Nat} : ∀ {l : List Int} {i k : Nat}, goodN c l i = true → goodN c (l.drop k) (i + k) = true
  | [], _, k, _ => by simp [goodN]
  | u :: l, i, 0, h => h
  | u :: l, i, k + 1, h => by
    simp only [goodN, Bool.and_eq_true] at h
    have := goodN_drop (k := k) h.2
    rw [List.drop_succ_cons, show i + (k + 1) = i + 1 + k by omega]
    exact this
theorem kind_cases {k : Int} (h1 : 1 ≤ k) (h2 : k ≤ 6) : k = 1 ∨ k = 2 ∨ k = 3 ∨ k = 4 ∨ k = 5 ∨ k = 6 := by omega
theorem good_all {s : Sg} (h : goodOne s = true) : (1 ≤ s.kind ∧ s.kind ≤ 6) ∧ goodN (countK s.kind) s.v 0 = true ∧ goodW s = true := by
  unfold goodOne at h
  simp only [Bool.and_eq_true, decide_eq_true_eq] at h
  exact ⟨⟨h.1.1.1, h.1.1.2⟩, h.1.2, h.2⟩
theorem take_fill {s : Sg} (h : goodOne s = true) (hv : s.v.length = 6) : s.v.take (countK s.kind) ++ List.replicate (6 - (s.v.take (countK s.kind)).length) 0 = s.v := by
  have h1 := (good_all h).2.1
  have hd := goodN_tail (goodN_drop (k := countK s.kind) h1) (by omega)
  have hc : countK s.kind ≤ 6 := by unfold countK; (repeat' split) <;> omega
  have hl : (s.v.take (countK s.kind)).length = countK s.kind := by simp; omega
  rw [hl]
  rw [List.length_drop, hv] at hd
  conv => rhs; rw [← List.take_append_drop (countK s.kind) s.v]
  rw [hd]
theorem weight_of {x : Part} {s : Sg} {p : Pen} (hk : goodW s = true) (hr : x.r = ruleK s.kind) (h56 : s.kind = 5 ∨ (s.kind ≠ 5 ∧ (ruleK s.kind).kind ≠ 5)) (h5 : s.kind = 5 → (ruleK s.kind).kind = 5) (hn : x.nums.map Tok.n = numsP x.small p s) :
    ∃ ns, weightS x = .ok (s.w, ns) ∧ ns.map Tok.n = relN x.small p (s.v.take (countK s.kind)) 0 := by
  unfold weightS goodW at *
  rcases h56 with h | ⟨h, h'⟩
  · rw [hr, if_pos (h5 h)]
    rw [if_pos h] at hk
    simp only [Bool.and_eq_true, decide_eq_true_eq] at hk
    unfold numsP at hn
    rw [if_pos h] at hn
    cases hx : x.nums with
    | nil => rw [hx] at hn; simp at hn
    | cons t r =>
      rw [hx] at hn
      simp only [List.map_cons, List.singleton_append, List.cons.injEq] at hn
      simp only [hn.1]
      rw [if_neg (by omega)]
      exact ⟨r, rfl, hn.2⟩
  · rw [hr, if_neg h']
    rw [if_neg h] at hk
    unfold numsP at hn
    rw [if_neg h] at hn
    have : s.w = 0 := by simpa using hk
    exact ⟨x.nums, by rw [this], by simpa using hn⟩
/-- One part. -/
theorem seg_of {x : Part} {s : Sg} {p : Pen} (hg : goodOne s = true) (hv : s.v.length = 6) (hr : x.r = ruleK s.kind) (hn : x.nums.map Tok.n = numsP x.small p s) : segS p x = .ok (s, nextP p s) := by
  obtain ⟨hk, h1, h2⟩ := good_all hg
  have hfacts : ∀ k : Int, (k = 1 ∨ k = 2 ∨ k = 3 ∨ k = 4 ∨ k = 5 ∨ k = 6) → ((k = 5 ∨ (k ≠ 5 ∧ (ruleK k).kind ≠ 5)) ∧ (k = 5 → (ruleK k).kind = 5) ∧ ¬ ((ruleK k).name = 83 ∨ (ruleK k).name = 84) ∧ (ruleK k).name ≠ 86 ∧ (ruleK k).name ≠ 72 ∧ ((ruleK k).kind : Int) = k) := by
    intro k hk
    rcases hk with rfl | rfl | rfl | rfl | rfl | rfl <;> decide
  obtain ⟨f1, f2, f3, f4, f5, f6⟩ := hfacts s.kind (kind_cases hk.1 hk.2)
  obtain ⟨ns, hw, hns⟩ := weight_of h2 hr f1 f2 hn
  unfold segS preS
  rw [hr, if_neg f3]
  simp only [hw]
  rw [absL_rel (by rw [hr]; exact f4) ns _ 0 hns (fun v hv' => goodN_in h1 v (List.mem_of_mem_take hv'))]
  simp only [List.nil_append]
  have hl : lineV p x (s.v.take (countK s.kind)) = s.v.take (countK s.kind) := by
    unfold lineV
    rw [hr, if_neg f5, if_neg f4]
  rw [hl, take_fill hg hv]
  have hc : countK s.kind ≤ 6 := by unfold countK; (repeat' split) <;> omega
  have hlen : (s.v.take (countK s.kind)).length = countK s.kind := by simp; omega
  rw [hlen]
  have : (⟨((ruleK s.kind).kind : Int), s.v, s.w⟩ : Sg) = s := by rw [f6]
  rw [this]
  rfl
theorem segs_of {sm : Bool} : ∀ (l : List Sg) (ps : List Part) (i : Nat) (p : Pen), ps.map partE = (itsP sm l p).map (fun x => (x.r, sm, x.ns)) → (∀ s ∈ l, goodOne s = true ∧ s.v.length = 6) → i + l.length ≤ 4096 → segsS ps i p = .ok l
  | [], [], i, p, _, _, _ => rfl
  | [], q :: ps, i, p, h, _, _ => by simp [itsP] at h
  | s :: l, [], i, p, h, _, _ => by simp [itsP] at h
  | s :: l, q :: ps, i, p, h, hg, hi => by
    simp only [List.map_cons, itsP, List.cons.injEq, partE, Prod.mk.injEq] at h
    obtain ⟨⟨h1, h2, h3⟩, h⟩ := h
    have hs := hg s (by simp)
    simp only [List.length_cons] at hi
    rw [segsS, if_neg (by omega), seg_of hs.1 hs.2 h1 (by rw [h2]; exact h3)]
    simp only
    rw [segs_of l ps (i + 1) (nextP p s) h (fun x hx => hg x (by simp [hx])) (by omega)]
theorem ruleK_facts {k : Int} (h1 : 1 ≤ k) (h2 : k ≤ 6) : ruleOf (letterB k).toNat = some (ruleK k) ∧ ruleOf (letterB k + 32).toNat = some (ruleK k) ∧ smallC (letterB k).toNat = false ∧ smallC (letterB k + 32).toNat = true ∧ ((ruleK k).kind : Int) = k ∧ 0 < (ruleK k).kind ∧ ((ruleK k).kind = 1 → (ruleK k).count ≠ 0) ∧ (ruleK k).count = (if k = 5 then 1 else 0) + countK k ∧
    kd (letterB k).toNat = 2 ∧ kd (letterB k + 32).toNat = 2 ∧ countK k ≤ 6 := by
  rcases kind_cases h1 h2 with rfl | rfl | rfl | rfl | rfl | rfl <;> decide
theorem nums_len (sm : Bool) (p : Pen) {s : Sg} (hk : 1 ≤ s.kind ∧ s.kind ≤ 6) (hv : s.v.length = 6) : (numsP sm p s).length = (ruleK s.kind).count := by
  have hf := ruleK_facts hk.1 hk.2
  unfold numsP
  rw [List.length_append, relN_len, hf.2.2.2.2.2.2.2.1, List.length_take, hv]
  have := hf.2.2.2.2.2.2.2.2.2.2
  split <;> simp <;> omega
theorem its_ok (sm : Bool) : ∀ (l : List Sg) (p : Pen), (∀ s ∈ l, goodOne s = true ∧ s.v.length = 6) → (∀ x ∈ itsP sm l p, okIt x ∧ smallC x.c.toNat = sm ∧ (x.r.kind = 1 → x.r.count ≠ 0))
  | [], p, _, x, hx => by simp [itsP] at hx
  | s :: l, p, h, x, hx => by
    rcases List.mem_cons.1 hx with rfl | hx
    · have hs := h s (by simp)
      have hk := (good_all hs.1).1
      have hf := ruleK_facts hk.1 hk.2
      refine ⟨⟨?_, (nums_len sm p hk hs.2).symm⟩, ?_, hf.2.2.2.2.2.2.1⟩
      · dsimp only
        cases sm
        · exact hf.1
        · exact hf.2.1
      · dsimp only
        cases sm
        · exact hf.2.2.1
        · exact hf.2.2.2.1
    · exact its_ok sm l _ (fun y hy => h y (by simp [hy])) x hx
theorem its_rules (sm : Bool) : ∀ (l : List Sg) (p : Pen), (itsP sm l p).map (·.r) = l.map (fun s => ruleK s.kind)
  | [], _ => rfl
  | s :: l, p => by simp [itsP, its_rules sm l]
theorem seq_of : ∀ (l : List Sg) (k : Nat), (∀ s ∈ l, goodOne s = true) → noTwo l = true → (k = 0 → ∀ s, l.head? = some s → s.kind = 1) → (k = 6 → ∀ s, l.head? = some s → s.kind ≠ 6) → okSeq k (l.map (fun s => ruleK s.kind))
  | [], k, _, _, _, _ => trivial
  | s :: l, k, hg, hn, h0, h6 => by
    have hk := (good_all (hg s (by simp))).1
    have hf := ruleK_facts hk.1 hk.2
    have hkk := hf.2.2.2.2.1
    have hk0 := hf.2.2.2.2.2.1
    have hz : (ruleK s.kind).kind = 0 → ∀ t, l.head? = some t → t.kind = 1 := fun e => by omega
    have ha : k = 0 → (ruleK s.kind).kind = 1 := fun e => by have := h0 e s rfl; omega
    have hb : ¬ ((ruleK s.kind).kind = 6 ∧ k = 6) := fun e => h6 e.2 s rfl (by omega)
    refine ⟨ha, hb, hk0, seq_of l _ (fun x hx => hg x (by simp [hx])) ?_ hz ?_⟩
    · cases l with
      | nil => rfl
      | cons b l =>
        simp only [noTwo, Bool.and_eq_true] at hn
        exact hn.2
    · intro e t ht
      have e' : (ruleK s.kind).kind = 6 := e
      cases l with
      | nil => simp at ht
      | cons b l =>
        simp only [List.head?_cons, Option.some.injEq] at ht
        subst ht
        simp only [noTwo, Bool.and_eq_true, Bool.not_eq_true'] at hn
        have := hn.1
        simp at this
        exact this (by omega)
/-- The path of tokens of that shape. -/
theorem parse_of (sm mg : Bool) (l : List Sg) (ts : List Tok) (en : Int) (hg : goodS l = true) (hv : ∀ s ∈ l, s.v.length = 6) (h : ts.map er = shapeI mg (itsP sm l pen0) []) : parseS ts en = .ok l := by
  unfold goodS at hg
  simp only [Bool.and_eq_true, decide_eq_true_eq, List.all_eq_true] at hg
  obtain ⟨⟨⟨hh, hl⟩, hall⟩, hno⟩ := hg
  have hgv : ∀ s ∈ l, goodOne s = true ∧ s.v.length = 6 := fun s hs => ⟨hall s hs, hv s hs⟩
  have hok := its_ok sm l pen0 hgv
  have hne : ts ≠ [] := by
    rintro rfl
    cases l with
    | nil => simp [headOk] at hh
    | cons s r =>
      simp only [headOk, decide_eq_true_eq] at hh
      simp only [List.map_nil, itsP, shapeI] at h
      have : numsP sm pen0 s ≠ [] := fun e => by
        have h2 := nums_len sm pen0 (good_all (hall s (by simp))).1 (hv s (by simp))
        rw [e, hh] at h2
        cases h2
      rw [if_neg (fun e => this e.2)] at h
      cases h
  obtain ⟨ps', h1, h2⟩ := read_items (en := en) (itsP sm l pen0) [] ts.length ts [] h (Nat.le_refl _) (by simp) (fun x hx => (hok x hx).1) (by
    rw [List.nil_append, its_rules]
    refine seq_of l _ hall hno (fun _ s hs => ?_) (fun e => by cases e)
    cases l with
    | nil => simp at hs
    | cons b r =>
      simp only [headOk, decide_eq_true_eq] at hh
      simp only [List.head?_cons, Option.some.injEq] at hs
      subst hs
      exact hh) (fun y hy => (hok y (by simpa using hy)).2.2) (by simp)
  unfold parseS readAll
  rw [if_neg hne, h1]
  simp only [List.nil_append]
  refine segs_of (sm := sm) l ps' 0 pen0 ?_ hgv (by omega)
  rw [h2]
  simp only [List.nil_append]
  refine List.map_congr_left fun x hx => ?_
  unfold itE
  rw [(hok x hx).2.1]
end Go.Proofs.YtefajplbgmikdaaDoor
