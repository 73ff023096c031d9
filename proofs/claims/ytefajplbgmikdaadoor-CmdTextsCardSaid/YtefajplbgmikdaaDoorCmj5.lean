/-
  What is parsed is good; the path of a path's text is it. No program in this text.
-/
import Derived.Test.YtefajplbgmikdaaDoorCmj1
import Derived.Test.YtefajplbgmikdaaDoorCmj4
namespace Go.Proofs.YtefajplbgmikdaaDoor
open Go.Lib

theorem okSeq_snoc : ∀ {l : List Rl} {k : Nat} {x : Rl}, okSeq k l → ((((l.getLast?.map (·.kind)).getD k) = 0 → x.kind = 1) ∧ ¬ (x.kind = 6 ∧ ((l.getLast?.map (·.kind)).getD k) = 6) ∧ 0 < x.kind) → okSeq k (l ++ [x])
  | [], k, x, _, h => ⟨by simpa using h.1, by simpa using h.2.1, h.2.2, trivial⟩
  | r :: l, k, x, hl, h => by
    have hl' : (k = 0 → r.kind = 1) ∧ ¬ (r.kind = 6 ∧ k = 6) ∧ 0 < r.kind ∧ okSeq r.kind l := hl
    refine ⟨hl'.1, hl'.2.1, hl'.2.2.1, okSeq_snoc hl'.2.2.2 ?_⟩
    cases l with
    | nil => simpa using h
    | cons c l =>
      rw [List.getLast?_cons_cons] at h
      rw [List.getLast?_eq_some_getLast (by simp : (c :: l) ≠ [])] at h ⊢
      exact h
def chk (ps : List Part) : Prop := okSeq 0 (ps.map (·.r))
theorem last_get (ps : List Part) : ((ps.map (·.r)).getLast?.map (·.kind)).getD 0 = lastKind ps := by
  unfold lastKind
  rw [List.getLast?_map]
  cases ps.getLast? <;> rfl
theorem chk_once {en : Int} {x : Rl} {sm : Bool} {pl : Int} {l l' : List Tok} {ps ps' : List Part} (h : onceS en x sm pl l ps = .ok (l', ps')) (hc : chk ps) (h0 : lastKind ps = 0 → x.kind = 1) (h6 : ¬ (x.kind = 6 ∧ lastKind ps = 6)) (hp : 0 < x.kind) : chk ps' ∧ lastKind ps' = x.kind := by
  unfold onceS at h
  split at h
  · simp only [Except.ok.injEq, Prod.mk.injEq] at h
    obtain ⟨_, rfl⟩ := h
    refine ⟨?_, last_snoc _ _⟩
    unfold chk
    rw [List.map_append]
    exact okSeq_snoc hc (by rw [last_get]; exact ⟨h0, h6, hp⟩)
  · cases h
theorem chk_again {en : Int} {x : Rl} {sm : Bool} (hp : 0 < x.kind) (hx : 0 < x.count → x.kind ≠ 6) : ∀ {f : Nat} {l l' : List Tok} {ps ps' : List Part}, againS en x sm f l ps = .ok (l', ps') → chk ps → lastKind ps ≠ 0 → chk ps' ∧ lastKind ps' ≠ 0
  | 0, l, l', ps, ps', h, hc, hk => by
    simp only [againS, Except.ok.injEq, Prod.mk.injEq] at h
    obtain ⟨_, rfl⟩ := h
    exact ⟨hc, hk⟩
  | f + 1, l, l', ps, ps', h, hc, hk => by
    rw [againS] at h
    split at h
    · rename_i hcc
      split at h
      · rename_i l2 ps2 he
        have h3 := chk_once he hc (fun e => absurd e hk) (fun e => hx hcc.1 e.1) hp
        exact chk_again hp hx h h3.1 (by omega)
      · cases h
    · simp only [Except.ok.injEq, Prod.mk.injEq] at h
      obtain ⟨_, rfl⟩ := h
      exact ⟨hc, hk⟩
theorem rules_pos : ∀ x ∈ rulesL, 0 < x.kind ∧ (0 < x.count → x.kind ≠ 6) := by decide
theorem chk_zero {ps : List Part} (h : chk ps) : lastKind ps = 0 → ps = [] := by
  intro h0
  rcases List.eq_nil_or_concat ps with rfl | ⟨q, p, rfl⟩
  · rfl
  · exfalso
    rw [List.concat_eq_append] at h h0
    rw [last_snoc] at h0
    unfold chk at h
    rw [List.map_append] at h
    have h' : 0 < p.r.kind := (okSeq_app h).2.2.2.1
    omega
theorem chk_letter {en : Int} {c : Nat} {pl : Int} {more : Bool} {l l' : List Tok} {ps ps' : List Part} (h : letterS en c pl more l ps = .ok (l', ps')) (hc : chk ps) : chk ps' := by
  unfold letterS at h
  split at h
  · cases h
  · rename_i x hx
    have hm : x ∈ rulesL := List.mem_of_find?_eq_some hx
    split at h
    · cases h
    · rename_i hcond
      split at h
      · cases h
      · split at h
        · rename_i l2 ps2 he
          have h3 := chk_once he hc (fun e => Classical.byContradiction fun e2 => hcond (.inl ⟨chk_zero hc e, e2⟩)) (fun e => hcond (.inr e)) (rules_pos x hm).1
          refine (chk_again ?_ ?_ h h3.1 (by have := (rules_pos x hm).1; omega)).1
          · split
            · decide
            · exact (rules_pos x hm).1
          · split
            · decide
            · exact (rules_pos x hm).2
        · cases h
theorem chk_word {en : Int} : ∀ {s : List UInt8} {pl : Int} {l l' : List Tok} {ps ps' : List Part}, wordS en s pl l ps = .ok (l', ps') → chk ps → chk ps'
  | [], pl, l, l', ps, ps', h, hc => by
    simp only [wordS, Except.ok.injEq, Prod.mk.injEq] at h
    obtain ⟨_, rfl⟩ := h
    exact hc
  | c :: cs, pl, l, l', ps, ps', h, hc => by
    rw [wordS] at h
    split at h
    · rename_i l2 ps2 he
      exact chk_word h (chk_letter he hc)
    · cases h
theorem letter_more {en : Int} {c : Nat} {pl : Int} {more : Bool} {l l' : List Tok} {ps ps' : List Part} (h : letterS en c pl more l ps = .ok (l', ps')) : ps.length < ps'.length := by
  have hag : ∀ {x : Rl} {sm : Bool} {f : Nat} {l l' : List Tok} {ps ps' : List Part}, againS en x sm f l ps = .ok (l', ps') → ps.length ≤ ps'.length := by
    intro x sm f
    induction f with
    | zero =>
      intro l l' ps ps' h
      simp only [againS, Except.ok.injEq, Prod.mk.injEq] at h
      obtain ⟨_, rfl⟩ := h
      exact Nat.le_refl _
    | succ f ih =>
      intro l l' ps ps' h
      rw [againS] at h
      split at h
      · split at h
        · rename_i l2 ps2 he
          have := (once_wt he).2.2
          have := ih h
          omega
        · cases h
      · simp only [Except.ok.injEq, Prod.mk.injEq] at h
        obtain ⟨_, rfl⟩ := h
        exact Nat.le_refl _
  unfold letterS at h
  split at h
  · cases h
  · split at h
    · cases h
    · split at h
      · cases h
      · split at h
        · rename_i l2 ps2 he
          have := (once_wt he).2.2
          have := hag h
          omega
        · cases h
theorem word_ne {en : Int} {c : UInt8} {cs : List UInt8} {pl : Int} {l l' : List Tok} {ps ps' : List Part} (h : wordS en (c :: cs) pl l ps = .ok (l', ps')) (_ : chk ps) : ps' ≠ [] := by
  have hone : ∀ {s : List UInt8} {pl : Int} {l l' : List Tok} {ps ps' : List Part}, wordS en s pl l ps = .ok (l', ps') → ps.length ≤ ps'.length := by
    intro s
    induction s with
    | nil =>
      intro pl l l' ps ps' h
      simp only [wordS, Except.ok.injEq, Prod.mk.injEq] at h
      obtain ⟨_, rfl⟩ := h
      exact Nat.le_refl _
    | cons c cs ih =>
      intro pl l l' ps ps' h
      rw [wordS] at h
      split at h
      · rename_i l2 ps2 he
        refine Nat.le_trans ?_ (ih h)
        exact Nat.le_of_lt (letter_more he)
      · cases h
  rw [wordS] at h
  split at h
  · rename_i l2 ps2 he
    have h1 := hone h
    have h2 := letter_more he
    intro e
    subst e
    simp at h1
    subst h1
    simp at h2
  · cases h
theorem chk_read {en : Int} : ∀ {f : Nat} {l : List Tok} {ps ps' : List Part}, readS en f l ps = .ok ps' → chk ps → chk ps'
  | f, [], ps, ps', h, hc => by
    have : readS en f [] ps = .ok ps := by cases f <;> rfl
    rw [this] at h
    simp only [Except.ok.injEq] at h
    exact h ▸ hc
  | 0, _ :: _, ps, ps', h, hc => by
    simp only [readS, Except.ok.injEq] at h
    exact h ▸ hc
  | f + 1, t :: l, ps, ps', h, hc => by
    rw [readS] at h
    split at h
    · cases h
    · split at h
      · cases h
      · split at h
        · rename_i l2 ps2 he
          exact chk_read h (chk_word he hc)
        · cases h
theorem read_ne {en : Int} {l : List Tok} {ps : List Part} (h : readAll en l = .ok ps) : ps ≠ [] := by
  unfold readAll at h
  split at h
  · cases h
  · rename_i hl
    cases l with
    | nil => exact absurd rfl hl
    | cons t l =>
      rw [List.length_cons, readS] at h
      split at h
      · cases h
      · split at h
        · cases h
        · rename_i hs
          split at h
          · rename_i l2 ps2 he
            cases hts : t.s with
            | nil => exact absurd hts hs
            | cons c cs =>
              rw [hts] at he
              have h1 := word_ne he (ps := []) trivial
              have hmono : ∀ {f : Nat} {l : List Tok} {ps ps' : List Part}, readS en f l ps = .ok ps' → ps ≠ [] → chk ps → ps' ≠ [] := by
                intro f
                induction f with
                | zero =>
                  intro l ps ps' h hne _
                  cases l <;> (simp only [readS, Except.ok.injEq] at h; exact h ▸ hne)
                | succ f ih =>
                  intro l ps ps' h hne hc
                  cases l with
                  | nil => simp only [readS, Except.ok.injEq] at h; exact h ▸ hne
                  | cons t l =>
                    rw [readS] at h
                    split at h
                    · cases h
                    · split at h
                      · cases h
                      · rename_i hs
                        split at h
                        · rename_i l2 ps2 he
                          cases hts : t.s with
                          | nil => exact absurd hts hs
                          | cons c cs =>
                            rw [hts] at he
                            exact ih h (word_ne he hc) (chk_word he hc)
                        · cases h
              exact hmono h h1 (chk_word he (ps := []) trivial)
          · cases h
theorem absL_ok {p : Pen} {x : Part} : ∀ {ts : List Tok} {i : Nat} {vs : List Int}, absL p x ts i = .ok vs → vs.length = ts.length ∧ ∀ v ∈ vs, Co v
  | [], i, vs, h => by
    simp only [absL, Except.ok.injEq] at h
    subst h
    simp
  | t :: ts, i, vs, h => by
    rw [absL] at h
    split at h
    · rename_i hin
      split at h
      · rename_i l he
        simp only [Except.ok.injEq] at h
        subst h
        have := absL_ok he
        refine ⟨by simp [this.1], fun v hv => ?_⟩
        rcases List.mem_cons.1 hv with rfl | hv
        · exact inR_iff.1 hin
        · exact this.2 v hv
      · cases h
    · cases h
theorem co_zero : Co 0 := by unfold Co; omega
theorem co_getD {l : List Int} (h : ∀ v ∈ l, Co v) (i : Nat) : Co (l.getD i 0) := by
  rw [List.getD_eq_getElem?_getD]
  cases hi : l[i]? with
  | none => exact co_zero
  | some v => exact h v (List.mem_of_getElem? hi)
theorem goodN_fill : ∀ (v : List Int) (k i c : Nat), (∀ x ∈ v, Co x) → i + v.length ≤ c → goodN c (v ++ List.replicate k 0) i = true
  | [], 0, i, c, _, _ => rfl
  | [], k + 1, i, c, h, hi => by
    simp only [List.nil_append, List.replicate_succ, goodN, Bool.and_eq_true, Bool.or_eq_true]
    refine ⟨⟨by decide, .inl (by decide)⟩, ?_⟩
    have : ∀ (k i : Nat), goodN c (List.replicate k 0) i = true := by
      intro k
      induction k with
      | zero => intro i; rfl
      | succ k ih =>
        intro i
        have h0 : inR 0 = true := by decide
        rw [List.replicate_succ, goodN, ih, h0]
        simp
    exact this k (i + 1)
  | u :: v, k, i, c, h, hi => by
    simp only [List.length_cons] at hi
    simp only [List.cons_append, goodN, Bool.and_eq_true, Bool.or_eq_true, decide_eq_true_eq]
    exact ⟨⟨inR_iff.2 (h u (by simp)), .inr (by omega)⟩, goodN_fill v k (i + 1) c (fun x hx => h x (by simp [hx])) (by omega)⟩
theorem move_ok {p : Pen} {s : Sg} {n : Nat} (hp : PenOk p) (hs : SgOk s) : PenOk (moveS p s n) := by
  have h1 := co_getD hs.2
  unfold moveS
  refine ⟨?_, ?_, ?_, ?_, hs⟩
  · dsimp only; split; exact hp.fx; exact h1 _
  · dsimp only; split; exact hp.fy; exact h1 _
  · dsimp only; (repeat' split) <;> first | exact hp.fx | exact h1 _
  · dsimp only; (repeat' split) <;> first | exact hp.fy | exact h1 _
/-- What a part gives. -/
theorem seg_ok {q : Tok → Prop} {p p' : Pen} {x : Part} {s : Sg} (hp : PenOk p) (hx : PartOk q x) (h : segS p x = .ok (s, p')) : PenOk p' ∧ SgOk s ∧ goodOne s = true ∧ s.kind = x.r.kind := by
  unfold segS at h
  cases h1 : preS p x with
  | error e => rw [h1] at h; cases h
  | ok pr =>
    rw [h1] at h
    cases h2 : weightS x with
    | error e => rw [h2] at h; cases h
    | ok wn =>
      obtain ⟨w, ns⟩ := wn
      rw [h2] at h
      cases h3 : absL p x ns 0 with
      | error e => simp only [h3] at h; cases h
      | ok vs =>
        simp only [h3, Except.ok.injEq, Prod.mk.injEq] at h
        obtain ⟨h4, h5⟩ := h
        have hvs := absL_ok h3
        have hpr : (∀ v ∈ pr, Co v) ∧ pr.length = (if x.r.name = 83 ∨ x.r.name = 84 then 2 else 0) := by
          unfold preS at h1
          split at h1
          · rename_i hn
            split at h1
            · rename_i hi
              simp only [Except.ok.injEq] at h1
              subst h1
              refine ⟨fun v hv => ?_, by rw [if_pos hn]; rfl⟩
              simp only [List.mem_cons, List.not_mem_nil, or_false] at hv
              rcases hv with rfl | rfl
              · exact inR_iff.1 hi.1
              · exact inR_iff.1 hi.2
            · cases h1
          · rename_i hn
            simp only [Except.ok.injEq] at h1
            subst h1
            exact ⟨by simp, by rw [if_neg hn]; rfl⟩
        have hw : ns.length = (if x.r.kind = 5 then x.r.count - 1 else x.r.count) ∧ goodW ⟨x.r.kind, [], w⟩ = true := by
          unfold weightS at h2
          have hl := hx.2.1
          split at h2
          · rename_i hk
            rw [if_pos hk]
            cases hn : x.nums with
            | nil => rw [hn] at h2; cases h2
            | cons t r =>
              rw [hn] at h2 hl
              simp only at h2
              split at h2
              · cases h2
              · rename_i ht
                simp only [Except.ok.injEq, Prod.mk.injEq] at h2
                obtain ⟨rfl, rfl⟩ := h2
                simp only [List.length_cons] at hl
                refine ⟨by omega, ?_⟩
                unfold goodW
                rw [if_pos (by simp [hk])]
                simp; omega
          · rename_i hk
            rw [if_neg hk]
            simp only [Except.ok.injEq, Prod.mk.injEq] at h2
            obtain ⟨rfl, rfl⟩ := h2
            refine ⟨hl, ?_⟩
            unfold goodW
            rw [if_neg (by simp only; omega)]
            rfl
        -- the list that is kept
        have hall : ∀ v ∈ pr ++ vs, Co v := fun v hv => (List.mem_append.1 hv).elim (hpr.1 v) (hvs.2 v)
        have hlc : ∀ v ∈ lineV p x (pr ++ vs), Co v := by
          intro v hv
          unfold lineV at hv
          split at hv
          · simp only [List.mem_cons, List.not_mem_nil, or_false] at hv
            rcases hv with rfl | rfl
            · exact co_getD hall 0
            · exact hp.y
          · split at hv
            · simp only [List.mem_cons, List.not_mem_nil, or_false] at hv
              rcases hv with rfl | rfl
              · exact hp.x
              · exact co_getD hall 0
            · exact hall v hv
        have hlen : (lineV p x (pr ++ vs)).length = countK x.r.kind ∧ countK x.r.kind ≤ 6 ∧ (1 : Int) ≤ x.r.kind ∧ (x.r.kind : Int) ≤ 6 := by
          have hl0 : (pr ++ vs).length = (if x.r.name = 83 ∨ x.r.name = 84 then 2 else 0) + (if x.r.kind = 5 then x.r.count - 1 else x.r.count) := by
            rw [List.length_append, hpr.2, hvs.1, hw.1]
          unfold lineV
          have hr := hx.1
          have hcase : ∀ r ∈ rulesL, ((if r.name = 72 then 2 else if r.name = 86 then 2 else (if r.name = 83 ∨ r.name = 84 then 2 else 0) + (if r.kind = 5 then r.count - 1 else r.count)) = countK r.kind ∧ countK r.kind ≤ 6 ∧ (1 : Int) ≤ r.kind ∧ (r.kind : Int) ≤ 6) := by decide
          have := hcase _ hr
          refine ⟨?_, this.2⟩
          rw [← this.1]
          split
          · rfl
          · split
            · rfl
            · exact hl0
        have hsg : SgOk s := by
          subst h4
          refine ⟨?_, fun v hv => ?_⟩
          · simp only [List.length_append, List.length_replicate]
            omega
          · simp only at hv
            rcases List.mem_append.1 hv with hv | hv
            · exact hlc v hv
            · rw [(List.mem_replicate.1 hv).2]; exact co_zero
        refine ⟨by rw [← h5, h4]; exact move_ok hp hsg, hsg, ?_, by subst h4; rfl⟩
        subst h4
        unfold goodOne
        simp only [Bool.and_eq_true, decide_eq_true_eq]
        refine ⟨⟨⟨hlen.2.2.1, hlen.2.2.2⟩, goodN_fill _ _ 0 _ hlc (by omega)⟩, hw.2⟩
theorem segs_ok {q : Tok → Prop} : ∀ {ps : List Part} {i : Nat} {p : Pen} {l : List Sg}, segsS ps i p = .ok l → PenOk p → (∀ x ∈ ps, PartOk q x) → (∀ s ∈ l, SgOk s ∧ goodOne s = true) ∧ l.map (·.kind) = ps.map (fun x => (x.r.kind : Int)) ∧ (l ≠ [] → i + l.length ≤ 4096)
  | [], i, p, l, h, _, _ => by
    simp only [segsS, Except.ok.injEq] at h
    subst h
    simp
  | x :: ps, i, p, l, h, hp, hx => by
    rw [segsS] at h
    split at h
    · cases h
    · rename_i hi
      split at h
      · cases h
      · rename_i s p' he
        have h1 := seg_ok hp (hx x (by simp)) he
        split at h
        · rename_i l' he'
          simp only [Except.ok.injEq] at h
          subst h
          have h2 := segs_ok he' h1.1 (fun y hy => hx y (by simp [hy]))
          refine ⟨fun y hy => ?_, by simp [h1.2.2.2, h2.2.1], fun _ => ?_⟩
          · rcases List.mem_cons.1 hy with rfl | hy
            · exact ⟨h1.2.1, h1.2.2.1⟩
            · exact h2.1 y hy
          · simp only [List.length_cons]
            by_cases hl : l' = []
            · subst hl; simp; omega
            · have := h2.2.2 hl; omega
        · cases h
theorem pen0_ok : PenOk pen0 := ⟨co_zero, co_zero, co_zero, co_zero, by decide, fun v hv => by
  have : v = 0 := by simpa [pen0] using hv
  subst this
  exact co_zero⟩
theorem two_of : ∀ {ps : List Part} {l : List Sg} {k : Nat}, okSeq k (ps.map (·.r)) → l.map (·.kind) = ps.map (fun x => (x.r.kind : Int)) → noTwo l = true
  | [], [], _, _, _ => rfl
  | [], _ :: _, _, _, h => by simp at h
  | _ :: _, [], _, _, _ => rfl
  | [x], [s], _, _, _ => rfl
  | [x], s :: t :: l, _, _, h => by simp at h
  | x :: y :: ps, [s], _, _, h => by simp at h
  | x :: y :: ps, s :: t :: l, k, hc, h => by
    have hc' : (k = 0 → x.r.kind = 1) ∧ ¬ (x.r.kind = 6 ∧ k = 6) ∧ 0 < x.r.kind ∧ okSeq x.r.kind ((y :: ps).map (·.r)) := hc
    have hc2 : (x.r.kind = 0 → y.r.kind = 1) ∧ ¬ (y.r.kind = 6 ∧ x.r.kind = 6) ∧ 0 < y.r.kind ∧ okSeq y.r.kind (ps.map (·.r)) := hc'.2.2.2
    simp only [List.map_cons, List.cons.injEq] at h
    obtain ⟨e1, e2, e3⟩ := h
    rw [noTwo]
    simp only [Bool.and_eq_true, Bool.not_eq_true', Bool.and_eq_false_iff, decide_eq_false_iff_not]
    refine ⟨?_, two_of hc'.2.2.2 (by simp [e2, e3])⟩
    by_cases h6 : s.kind = 6
    · right; intro e; exact hc2.2.1 ⟨by omega, by omega⟩
    · left; exact h6
/-- What is parsed is good. -/
theorem parse_good {ts : List Tok} {en : Int} {l : List Sg} (h : parseS ts en = .ok l) : goodS l = true ∧ ∀ s ∈ l, SgOk s := by
  unfold parseS at h
  cases hr : readAll en ts with
  | error a => rw [hr] at h; cases h
  | ok ps =>
    rw [hr] at h
    simp only at h
    have hne := read_ne hr
    have hch : chk ps := by
      unfold readAll at hr
      split at hr
      · cases hr
      · exact chk_read hr trivial
    have hpo : ∀ x ∈ ps, PartOk (fun _ => True) x := by
      unfold readAll at hr
      split at hr
      · cases hr
      · exact read_ok hr (fun _ _ => trivial) (by simp)
    have h2 := segs_ok h pen0_ok hpo
    have hl : l ≠ [] := by
      rintro rfl
      have := congrArg List.length h2.2.1
      simp at this
      exact hne (List.eq_nil_of_length_eq_zero this.symm)
    refine ⟨?_, fun s hs => (h2.1 s hs).1⟩
    unfold goodS
    simp only [Bool.and_eq_true, decide_eq_true_eq, List.all_eq_true]
    refine ⟨⟨⟨?_, by have := h2.2.2 hl; omega⟩, fun s hs => (h2.1 s hs).2⟩, two_of hch h2.2.1⟩
    cases l with
    | nil => exact absurd rfl hl
    | cons s l =>
      cases ps with
      | nil => exact absurd rfl hne
      | cons x ps =>
        have hk : x.r.kind = 1 := hch.1 rfl
        have := h2.2.1
        simp only [List.map_cons, List.cons.injEq] at this
        simp only [headOk, decide_eq_true_eq]
        omega
end Go.Proofs.YtefajplbgmikdaaDoor

/-
  The text of a good path is read as that path. No program in this text.
-/
namespace Go.Proofs.YtefajplbgmikdaaDoor
open Go.Lib

def pcsOf (s : Sg) : List Pc := .w [letterB s.kind] :: (numsOf s).map .n
def pcsS (l : List Sg) : List Pc := l.flatMap pcsOf
def sepP : List Pc → List Pc
  | [] => []
  | [p] => [p]
  | p :: q :: r => p :: .b 32 :: sepP (q :: r)
theorem render_sep : ∀ ps : List Pc, render (sepP ps) = Lib.join (ps.map pcB) [32]
  | [] => rfl
  | [p] => by simp [sepP, render, Lib.join, List.intercalate]
  | p :: q :: r => by
    have ih := render_sep (q :: r)
    have e : ∀ p ps, render (p :: ps) = pcB p ++ render ps := fun _ _ => by simp [render]
    have e32 : pcB (.b 32) = [32] := rfl
    rw [sepP, e, e, ih, e32]
    simp [Lib.join, List.intercalate]
theorem words_pcs (l : List Sg) : wordsS l = (pcsS l).map pcB := by
  unfold wordsS pcsS
  rw [List.map_flatMap]
  congr 1
  funext s
  simp [wordsOf, pcsOf, pcB, Function.comp_def]
theorem text_render (l : List Sg) : textS l = render (sepP (pcsS l)) := by rw [render_sep, textS, words_pcs]
def pcE : Pc → List (Int × List UInt8 × Int)
  | .w l => [(1, l, 0)]
  | .n n => [numE n]
  | .b _ => []
theorem toks_er : ∀ (ps : List Pc) (i : Nat), (toksP ps i).map er = ps.flatMap pcE
  | [], _ => rfl
  | p :: r, i => by
    rw [toksP, List.map_append, toks_er r, List.flatMap_cons]
    cases p <;> rfl
theorem sep_er : ∀ ps : List Pc, (sepP ps).flatMap pcE = ps.flatMap pcE
  | [] => rfl
  | [p] => rfl
  | p :: q :: r => by
    have ih := sep_er (q :: r)
    simp only [sepP, List.flatMap_cons, pcE, List.nil_append] at ih ⊢
    rw [ih]
theorem nums_false (p : Pen) (s : Sg) : numsP false p s = numsOf s := by unfold numsP numsOf; rw [relN_false]
theorem shape_pcs : ∀ (l : List Sg) (p : Pen), shapeI false (itsP false l p) [] = (pcsS l).flatMap pcE
  | [], _ => rfl
  | s :: l, p => by
    have h : ∀ ns : List Int, (ns.map Pc.n).flatMap pcE = ns.map numE := by
      intro ns
      induction ns with
      | nil => rfl
      | cons n ns ih => rw [List.map_cons, List.flatMap_cons, ih]; rfl
    rw [itsP, shapeI, if_neg (by simp), shape_pcs l, nums_false]
    simp only [pcsS, List.flatMap_cons, pcsOf, List.flatMap_append, h, List.cons_append]
    rfl
def pcFine : Pc → Prop
  | .w l => l ≠ [] ∧ ∀ c ∈ l, kd c.toNat = 2
  | .n n => n.natAbs < 4611686018427387904
  | .b _ => False
theorem sep_ok : ∀ (ps : List Pc), (∀ p ∈ ps, pcFine p) → pcOk (sepP ps)
  | [], _ => trivial
  | [p], h => by
    have hp := h p (by simp)
    cases p with
    | w l => exact ⟨hp, rfl, trivial⟩
    | n n => exact ⟨hp, rfl, trivial⟩
    | b c => exact hp.elim
  | p :: q :: r, h => by
    have hp := h p (by simp)
    have ih := sep_ok (q :: r) (fun x hx => h x (List.mem_cons_of_mem _ hx))
    have hb : pcOk (.b 32 :: sepP (q :: r)) := ⟨by decide, ih⟩
    cases p with
    | w l => exact ⟨hp, rfl, hb⟩
    | n n => exact ⟨hp, rfl, hb⟩
    | b c => exact hp.elim
theorem nums_small {s : Sg} (hg : goodOne s = true) : ∀ n ∈ numsOf s, Co n := by
  intro n hn
  obtain ⟨hk, h1, h2⟩ := good_all hg
  unfold numsOf at hn
  rcases List.mem_append.1 hn with hn | hn
  · split at hn
    · rename_i h5
      rw [List.mem_singleton] at hn
      subst hn
      unfold goodW at h2
      rw [if_pos h5] at h2
      simp only [Bool.and_eq_true, decide_eq_true_eq] at h2
      unfold Co; omega
    · simp at hn
  · exact inR_iff.1 (goodN_in h1 n (List.mem_of_mem_take hn))
theorem pcs_fine {l : List Sg} (h : ∀ s ∈ l, goodOne s = true) : ∀ p ∈ pcsS l, pcFine p := by
  intro p hp
  unfold pcsS at hp
  rw [List.mem_flatMap] at hp
  obtain ⟨s, hs, hp⟩ := hp
  have hk := (good_all (h s hs)).1
  have hf := ruleK_facts hk.1 hk.2
  unfold pcsOf at hp
  rcases List.mem_cons.1 hp with rfl | hp
  · refine ⟨by simp, fun c hc => ?_⟩
    rw [List.mem_singleton] at hc
    subst hc
    exact hf.2.2.2.2.2.2.2.2.1
  · obtain ⟨n, hn, rfl⟩ := List.mem_map.1 hp
    have := nums_small (h s hs) n hn
    unfold Co at this
    show n.natAbs < _
    omega
theorem good_parts {l : List Sg} (hg : goodS l = true) : headOk l = true ∧ l.length ≤ 4096 ∧ (∀ s ∈ l, goodOne s = true) ∧ noTwo l = true := by
  unfold goodS at hg
  simp only [Bool.and_eq_true, decide_eq_true_eq, List.all_eq_true] at hg
  exact ⟨hg.1.1.1, hg.1.1.2, hg.1.2, hg.2⟩
/-- The path of a path's text is it. -/
theorem of_text {l : List Sg} (hg : goodS l = true) (hv : ∀ s ∈ l, s.v.length = 6) : ofS (textS l) = .ok l := by
  obtain ⟨_, _, hall, _⟩ := good_parts hg
  unfold ofS
  rw [text_render, cut_pieces _ 0 (sep_ok _ (pcs_fine hall))]
  simp only
  exact parse_of false false l _ _ hg hv (by rw [toks_er, sep_er, shape_pcs])
theorem sep_len : ∀ ps : List Pc, (render (sepP ps)).length ≤ (ps.map fun p => (pcB p).length + 1).sum
  | [] => Nat.le_refl _
  | [p] => by simp [sepP, render]
  | p :: q :: r => by
    have ih := sep_len (q :: r)
    simp only [sepP, render, List.flatMap_cons, pcB, List.length_append, List.map_cons, List.sum_cons, List.length_singleton] at ih ⊢
    omega
theorem sum_pcs (f : Pc → Nat) (s : Sg) (l : List Sg) : ((pcsS (s :: l)).map f).sum = f (.w [letterB s.kind]) + (((numsOf s).map Pc.n).map f).sum + ((pcsS l).map f).sum := by
  simp [pcsS, pcsOf, Nat.add_assoc]
theorem pcs_len : ∀ l : List Sg, (∀ s ∈ l, goodOne s = true) → ((pcsS l).map fun p => (pcB p).length + 1).sum ≤ 160 * l.length
  | [], _ => Nat.le_refl _
  | s :: l, h => by
    have ih := pcs_len l (fun x hx => h x (by simp [hx]))
    have hs := nums_small (h s (by simp))
    have hk := (good_all (h s (by simp))).1
    have hf := ruleK_facts hk.1 hk.2
    have h1 : ∀ (ns : List Int), (∀ n ∈ ns, Co n) → ((ns.map Pc.n).map fun p => (pcB p).length + 1).sum ≤ 22 * ns.length := by
      intro ns
      induction ns with
      | nil => intro _; simp
      | cons n ns ih =>
        intro hn
        have h2 := ih (fun x hx => hn x (by simp [hx]))
        have h3 := hn n (by simp)
        unfold Co at h3
        have h4 := itoa_length_le n (by omega) (by omega)
        simp only [List.map_cons, List.sum_cons, List.length_cons, pcB] at h2 ⊢
        omega
    have h2 := h1 (numsOf s) hs
    have h3 : (numsOf s).length ≤ 7 := by
      unfold numsOf
      rw [List.length_append, List.length_take]
      have := hf.2.2.2.2.2.2.2.2.2.2
      split <;> simp <;> omega
    rw [sum_pcs, List.length_cons]
    have h4 : (pcB (.w [letterB s.kind])).length + 1 = 2 := rfl
    omega
theorem text_len {l : List Sg} (hg : goodS l = true) : (textS l).length ≤ 1000000 := by
  obtain ⟨_, h1, hall, _⟩ := good_parts hg
  have := sep_len (pcsS l)
  have := pcs_len l hall
  rw [text_render]
  omega
/-- What is parsed of any text is good, and its text's path is it. -/
theorem of_back {s : List UInt8} {l : List Sg} (h : ofS s = .ok l) : goodS l = true ∧ (∀ s ∈ l, SgOk s) ∧ ofS (textS l) = .ok l := by
  unfold ofS at h
  split at h
  · cases h
  · have := parse_good h
    exact ⟨this.1, this.2, of_text this.1 (fun s hs => (this.2 s hs).1)⟩
end Go.Proofs.YtefajplbgmikdaaDoor

/-
  The commands of a script, in plain words: what cmd.Parse, cmd.Good and cmd.Text tell. No model in this text.
-/
namespace Go.Proofs.YtefajplbgmikdaaDoor

/-- A command. -/
structure Cm where
  kind : Int
  n : List Int
  path : List Sg
  place : Int
deriving DecidableEq, Repr

def namesL : List (List UInt8) := [[], [99, 97, 110, 118, 97, 115], [109, 97, 116, 114, 105, 120], [112, 117, 115, 104], [112, 111, 112], [114, 117, 108, 101], [99, 111, 108, 111, 114], [116, 111, 108], [119, 105, 100, 116, 104], [99, 97, 112], [106, 111, 105, 110], [109, 105, 116, 101, 114], [100, 97, 115, 104], [102, 105, 108, 108], [115, 116, 114, 111, 107, 101], [99, 108, 105, 112]]
def nameK (k : Nat) : List UInt8 := namesL.getD k []
def countC (k : Nat) : Nat := [0, 5, 6, 0, 0, 0, 4, 1, 1, 0, 0, 1, 0, 0, 0, 0].getD k 0
def wordsK (k : Nat) : List (List UInt8) :=
  if k = 5 then [[110, 111, 110, 122, 101, 114, 111], [101, 118, 101, 110, 111, 100, 100]] else if k = 9 then [[98, 117, 116, 116], [115, 113, 117, 97, 114, 101], [114, 111, 117, 110, 100]]
  else if k = 10 then [[109, 105, 116, 101, 114], [98, 101, 118, 101, 108], [114, 111, 117, 110, 100]] else []
def pathK (k : Nat) : Bool := decide (13 ≤ k)
def dashK (k : Nat) : Bool := decide (k = 12)
def kindGo (s : List UInt8) : List (List UInt8) → Nat → Nat
  | [], _ => 0
  | x :: r, k => if 0 < k ∧ s = x then k else kindGo s r (k + 1)
def kindOf (s : List UInt8) : Nat := kindGo s namesL 0
def nameS (t : Tok) : Nat := if t.kind = 1 then kindOf t.s else 0

/-- The lines of tokens that are not empty, each with where it ends. -/
def linesA (en : Int) : List Tok → List Tok → List (List Tok × Int)
  | acc, [] => if acc = [] then [] else [(acc, en)]
  | acc, t :: r => if t.kind = 3 then (if acc = [] then [] else [(acc, t.place)]) ++ linesA en [] r else linesA en (acc ++ [t]) r
def linesS (en : Int) (l : List Tok) : List (List Tok × Int) := linesA en [] l

/-- Where a token stands that is not of a kind, or one too many, or where one lacks; -1: it is as it should be. -/
def onlyS (kd : Int) (count : Nat) (en : Int) : List Tok → Nat → Int
  | [], i => if i < count then en else -1
  | t :: r, i => if t.kind ≠ kd ∨ count ≤ i then t.place else onlyS kd count en r (i + 1)
/-- A line that was read. -/
structure Ln where
  kind : Nat
  place : Int
  l : List Tok
  en : Int
deriving DecidableEq, Repr
/-- Where a line of a kind is wrong by syntax; below nought: it is not. -/
def badS (k : Nat) (r : List Tok) (en : Int) : Int :=
  if pathK k = true then (match parseS r en with | .error (a, c) => if c = 20 then a else -1 | .ok _ => -1)
  else if dashK k = true then
    (if onlyS 2 r.length en r 0 < 0 ∧ 0 < r.length ∧ (r.length < 3 ∨ r.length % 2 = 0) then en else onlyS 2 r.length en r 0)
  else if wordsK k ≠ [] then (match r with | [] => onlyS 1 1 en r 0 | t :: _ => if t.s ∈ wordsK k then onlyS 1 1 en r 0 else t.place)
  else onlyS 2 (countC k) en r 0
def readC (first : Bool) : List Tok × Int → Except Int Ln
  | ([], en) => .error en
  | (t :: r, en) =>
    if nameS t = 0 ∨ decide (nameS t = 1) ≠ first then .error t.place
    else if 0 ≤ badS (nameS t) r en then .error (badS (nameS t) r en)
    else .ok ⟨nameS t, t.place, r, en⟩

def spansK (k cnt : Nat) : List (Int × Int) :=
  if k = 1 then [(1, 8192), (1, 8192), (0, 255), (0, 255), (0, 255)] else if k = 2 then List.replicate 6 (-2147483647, 2147483647) else if k = 5 then [(0, 1)] else if k = 6 then List.replicate 4 (0, 255)
  else if k = 7 then [(1, 1048576)] else if k = 8 then [(-2147483647, 2147483647)] else if k = 9 then [(0, 2)] else if k = 10 then [(0, 2)] else if k = 11 then [(64, 4096)] else if k = 12 then List.replicate cnt (0, 2147483647) else []
def soundS (k : Nat) (n : List Int) : Bool :=
  if k = 2 then !decide (n.getD 0 0 * n.getD 3 0 = n.getD 1 0 * n.getD 2 0) else if k = 12 then decide (n = []) || n.tail.any fun x => decide (0 < x) else true
/-- The numbers of tokens, each within its span; or where one is not. -/
def numsC : List (Int × Int) → List Tok → Except Int (List Int)
  | [], _ => .ok []
  | _ :: _, [] => .ok []
  | s :: ss, t :: ts => if t.n < s.1 ∨ s.2 < t.n then .error t.place else match numsC ss ts with | .ok l => .ok (t.n :: l) | .error e => .error e
def idxW (s : List UInt8) : List (List UInt8) → Nat → Int
  | [], _ => -1
  | x :: r, i => if s = x then i else idxW s r (i + 1)
/-- The command of a line that was read. -/
def cmdC (x : Ln) : Except (Int × Int) Cm :=
  if pathK x.kind = true then (match parseS x.l x.en with | .error e => .error e | .ok p => .ok ⟨x.kind, [], p, x.place⟩)
  else if wordsK x.kind ≠ [] then (match x.l with | [] => .ok ⟨x.kind, [], [], x.place⟩ | t :: _ => .ok ⟨x.kind, [idxW t.s (wordsK x.kind) 0], [], x.place⟩)
  else if dashK x.kind = true ∧ 17 < x.l.length then .error (x.place, 22)
  else match numsC (spansK x.kind x.l.length) x.l with
    | .error a => .error (a, 21)
    | .ok n => if soundS x.kind n = true then .ok ⟨x.kind, n, [], x.place⟩ else .error (x.place, 21)
def readsC : Bool → List (List Tok × Int) → Except Int (List Ln)
  | _, [] => .ok []
  | first, x :: r => match readC first x with
    | .error e => .error e
    | .ok y => match readsC false r with | .ok l => .ok (y :: l) | .error e => .error e
/-- The commands of lines, so many behind others; or those ahead of what is wrong, and that. -/
def cmdsC : List Ln → Nat → List Cm × Int × Int
  | [], _ => ([], 0, 0)
  | x :: r, i => if 4096 ≤ i then ([], x.place, 22) else match cmdC x with
    | .error (a, c) => ([], a, c)
    | .ok y => (y :: (cmdsC r (i + 1)).1, (cmdsC r (i + 1)).2)
def parseC (s : List UInt8) : List Cm × Int × Int :=
  if 1048576 < s.length then ([], 0, 22) else match cutL s 0 0 with
  | .error i => ([], i, 20)
  | .ok t => match readsC true (linesS s.length t) with
    | .error a => ([], a, 20)
    | .ok [] => ([], s.length, 20)
    | .ok (x :: l) => cmdsC (x :: l) 0

/-- Is a command good? -/
def goodK (first : Bool) (c : Cm) : Bool :=
  if c.kind < 1 ∨ 15 < c.kind ∨ decide (c.kind = 1) ≠ first then false
  else if pathK c.kind.toNat = true then decide (c.n = []) && goodS c.path
  else if c.path ≠ [] then false
  else if dashK c.kind.toNat = true ∧ 0 < c.n.length ∧ (c.n.length < 3 ∨ c.n.length % 2 = 0 ∨ 17 < c.n.length) then false
  else if dashK c.kind.toNat = false ∧ c.n.length ≠ (if wordsK c.kind.toNat = [] then countC c.kind.toNat else 1) then false
  else ((spansK c.kind.toNat c.n.length).zip c.n).all (fun p => decide (p.1.1 ≤ p.2) && decide (p.2 ≤ p.1.2)) && soundS c.kind.toNat c.n
def goodC (l : List Cm) : Bool := (match l with | [] => false | c :: r => goodK true c && r.all (goodK false)) && decide (l.length ≤ 4096)
def wordC (k : Nat) (n : Int) : List UInt8 := if wordsK k = [] then Lib.itoa n else (wordsK k).getD n.toNat []
/-- A command's line. -/
def lineC (c : Cm) : List UInt8 := nameK c.kind.toNat ++ (c.n.flatMap fun n => 32 :: wordC c.kind.toNat n) ++ (if pathK c.kind.toNat = true then 32 :: textS c.path else []) ++ [10]
def textC (l : List Cm) : List UInt8 := l.flatMap lineC
end Go.Proofs.YtefajplbgmikdaaDoor

/-
  The text of good commands, line by line, is read as these commands. No program in this text.
-/
namespace Go.Proofs.YtefajplbgmikdaaDoor
open Go.Lib

theorem runL_nl {k : Nat} (hk : k ≠ 5) : ∀ a b : List UInt8, runL k (a ++ 10 :: b) = runL k a
  | [], b => by
    have h : runL k (10 :: b) = 0 := by rw [runL, if_neg (fun h => hk (h.symm.trans (by decide)))]
    exact h
  | c :: a, b => by
    rw [List.cons_append, runL, runL, runL_nl hk a b]
/-- A text up to the end of a line, and what stands behind it. -/
theorem cut_nl : ∀ (a b : List UInt8) (i tt : Nat) (ts : List Tok), tt ≤ i + a.length → cutL a i tt = .ok ts → cutL (a ++ 10 :: b) i tt = (cutL b (i + a.length + 1) 0).map (ts ++ ⟨3, [], 0, ((i + a.length : Nat) : Int)⟩ :: ·)
  | [], b, i, tt, ts, ht, h => by
    simp only [cutL, Except.ok.injEq] at h
    subst h
    rw [List.length_nil, Nat.add_zero] at ht ⊢
    rw [List.nil_append, cutL, if_neg (by omega), if_neg (by decide), if_neg (by decide), if_neg (by decide), if_neg (by decide), if_pos (by decide), cut_to _ _ _ (Nat.le_refl _)]
    rfl
  | c :: a, b, i, tt, ts, ht, h => by
    have e : i + (c :: a).length = i + 1 + a.length := by simp; omega
    rw [e] at ht ⊢
    rw [List.cons_append, cutL]
    rw [cutL] at h
    have hmap : ∀ (t0 : Tok) (tt2 : Nat), tt2 ≤ i + 1 + a.length → (cutL a (i + 1) tt2).map (t0 :: ·) = .ok ts → (cutL (a ++ 10 :: b) (i + 1) tt2).map (t0 :: ·) = (cutL b (i + 1 + a.length + 1) 0).map (ts ++ ⟨3, [], 0, ((i + 1 + a.length : Nat) : Int)⟩ :: ·) := by
      intro t0 tt2 h2 h3
      cases hc : cutL a (i + 1) tt2 with
      | error e => rw [hc] at h3; cases h3
      | ok t2 =>
        rw [hc] at h3
        simp only [Except.map, Except.ok.injEq] at h3
        subst h3
        rw [cut_nl a b (i + 1) tt2 t2 h2 hc]
        cases cutL b (i + 1 + a.length + 1) 0 <;> rfl
    split at h
    · rename_i h1
      rw [if_pos h1]
      exact cut_nl a b (i + 1) tt ts ht h
    · rename_i h1
      rw [if_neg h1]
      split at h
      · rename_i h2
        rw [if_pos h2]
        exact cut_nl a b (i + 1) tt ts ht h
      · rename_i h2
        rw [if_neg h2]
        split at h
        · rename_i h3
          have hle := runL_le 2 (c :: a)
          rw [if_pos h3, ← List.cons_append, runL_nl (by decide) (c :: a) b, List.take_append_of_le_length hle]
          exact hmap _ _ (by simp at hle; omega) h
        · rename_i h3
          rw [if_neg h3]
          split at h
          · rename_i h4
            have hle := runL_le 3 (c :: a)
            rw [if_pos h4, ← List.cons_append, runL_nl (by decide) (c :: a) b, List.take_append_of_le_length hle]
            exact hmap _ _ (by simp at hle; omega) h
          · rename_i h4
            rw [if_neg h4]
            split at h
            · rename_i h5
              have hle := runL_le 3 a
              rw [if_pos h5, runL_nl (by decide) a b, List.take_append_of_le_length hle]
              split at h
              · cases h
              · rename_i h6
                rw [if_neg h6]
                exact hmap _ _ (by omega) h
            · rename_i h5
              rw [if_neg h5]
              split at h
              · rename_i h6
                rw [if_pos h6]
                exact hmap _ _ (by omega) h
              · cases h

/-- The text of lines of pieces, each with its end. -/
def textLn (L : List (List Pc)) : List UInt8 := L.flatMap fun l => render l ++ [10]
def toksLn : List (List Pc) → Nat → List Tok
  | [], _ => []
  | l :: r, i => toksP l i ++ ⟨3, [], 0, ((i + (render l).length : Nat) : Int)⟩ :: toksLn r (i + (render l).length + 1)
theorem textLn_cons (l : List Pc) (L : List (List Pc)) : textLn (l :: L) = render l ++ 10 :: textLn L := by simp [textLn]
theorem textLn_app (L M : List (List Pc)) : textLn (L ++ M) = textLn L ++ textLn M := by simp [textLn]
theorem cut_lines : ∀ (L : List (List Pc)) (z : List Pc) (i : Nat), (∀ l ∈ L, pcOk l) → pcOk z → cutL (textLn L ++ render z) i 0 = .ok (toksLn L i ++ toksP z (i + (textLn L).length))
  | [], z, i, _, hz => by simpa [textLn, toksLn] using cut_pieces z i hz
  | l :: L, z, i, hL, hz => by
    have hl := hL l (by simp)
    rw [textLn_cons, List.append_assoc, List.cons_append, cut_nl _ _ _ _ _ (Nat.zero_le _) (cut_pieces l i hl), cut_lines L z _ (fun x hx => hL x (by simp [hx])) hz]
    simp only [Except.map, toksLn, List.append_assoc, List.cons_append, List.length_append, List.length_cons]
    rw [show i + (render l).length + 1 + (textLn L).length = i + ((render l).length + ((textLn L).length + 1)) by omega]
theorem toksP_kind : ∀ (ps : List Pc) (i : Nat), ∀ t ∈ toksP ps i, t.kind ≠ 3
  | [], _, t, h => by simp [toksP] at h
  | p :: r, i, t, h => by
    rw [toksP] at h
    rcases List.mem_append.1 h with h | h
    · cases p with
      | w l => simp [pcT] at h; subst h; simp
      | n n => simp [pcT] at h; subst h; simp
      | b c => simp [pcT] at h
    · exact toksP_kind r _ t h
theorem linesA_skip (en : Int) : ∀ (ts acc rest : List Tok), (∀ t ∈ ts, t.kind ≠ 3) → linesA en acc (ts ++ rest) = linesA en (acc ++ ts) rest
  | [], acc, rest, _ => by simp
  | t :: ts, acc, rest, h => by
    rw [List.cons_append, linesA, if_neg (h t (by simp)), linesA_skip en ts _ rest (fun x hx => h x (by simp [hx]))]
    simp
theorem linesA_nl (en : Int) (acc rest : List Tok) (s : List UInt8) (n p : Int) : linesA en acc (⟨3, s, n, p⟩ :: rest) = (if acc = [] then [] else [(acc, p)]) ++ linesA en [] rest := by
  rw [linesA, if_pos rfl]
def erL (l : List Pc) : List (Int × List UInt8 × Int) := l.flatMap pcE
theorem toks_nil {l : List Pc} {i : Nat} : toksP l i = [] ↔ erL l = [] := by
  unfold erL
  rw [← toks_er l i, List.map_eq_nil_iff]
/-- The lines that are not empty, but for their places. -/
theorem lines_er (en : Int) : ∀ (L : List (List Pc)) (z : List Pc) (i j : Nat), (linesS en (toksLn L i ++ toksP z j)).map (fun x => x.1.map er) = ((L ++ [z]).map erL).filter (fun e => !e.isEmpty)
  | [], z, i, j => by
    have h := linesA_skip en (toksP z j) [] [] (toksP_kind z j)
    rw [List.append_nil, List.nil_append] at h
    simp only [linesS, toksLn, List.nil_append]
    rw [h, linesA]
    by_cases hz : toksP z j = []
    · rw [if_pos hz]
      simp [toks_nil.1 hz]
    · rw [if_neg hz]
      have : erL z ≠ [] := fun e => hz (toks_nil.2 e)
      simp only [List.map_cons, List.map_nil, toks_er]
      rw [show z.flatMap pcE = erL z from rfl]
      cases hh : erL z with
      | nil => exact absurd hh this
      | cons a b => simp
  | l :: L, z, i, j => by
    have ih := lines_er en L z (i + (render l).length + 1) j
    unfold linesS at ih ⊢
    rw [toksLn, List.append_assoc, linesA_skip en _ _ _ (toksP_kind l i), List.nil_append, List.cons_append, linesA_nl, List.map_append, ih]
    by_cases hz : toksP l i = []
    · rw [if_pos hz]
      simp [toks_nil.1 hz]
    · rw [if_neg hz]
      have : erL l ≠ [] := fun e => hz (toks_nil.2 e)
      simp only [List.map_cons, List.map_nil, toks_er, List.cons_append, List.nil_append]
      rw [show l.flatMap pcE = erL l from rfl]
      cases hh : erL l with
      | nil => exact absurd hh this
      | cons a b => simp

def argsE (c : Cm) : List (Int × List UInt8 × Int) := (if wordsK c.kind.toNat = [] then c.n.map numE else c.n.map fun n => (1, wordC c.kind.toNat n, 0)) ++ (if pathK c.kind.toNat = true then (pcsS c.path).flatMap pcE else [])
/-- The tokens of a command, but for their places. -/
def erC (c : Cm) : List (Int × List UInt8 × Int) := (1, nameK c.kind.toNat, 0) :: argsE c
theorem kind_cases15 {k : Int} (h1 : 1 ≤ k) (h2 : k ≤ 15) : k = 1 ∨ k = 2 ∨ k = 3 ∨ k = 4 ∨ k = 5 ∨ k = 6 ∨ k = 7 ∨ k = 8 ∨ k = 9 ∨ k = 10 ∨ k = 11 ∨ k = 12 ∨ k = 13 ∨ k = 14 ∨ k = 15 := by omega
theorem name_kind : ∀ k : Int, 1 ≤ k → k ≤ 15 → kindOf (nameK k.toNat) = k.toNat := by
  intro k h1 h2
  rcases kind_cases15 h1 h2 with rfl | rfl | rfl | rfl | rfl | rfl | rfl | rfl | rfl | rfl | rfl | rfl | rfl | rfl | rfl <;> decide
theorem only_nums {en : Int} : ∀ {r : List Tok} {count i : Nat}, (∀ t ∈ r, t.kind = 2) → i + r.length = count → onlyS 2 count en r i = -1
  | [], count, i, _, h => by rw [onlyS, if_neg (by simp at h; omega)]
  | t :: r, count, i, h1, h => by
    rw [onlyS, if_neg (by have := h1 t (by simp); simp at h; omega)]
    exact only_nums (fun x hx => h1 x (by simp [hx])) (by simp at h; omega)
theorem nums_in : ∀ {ss : List (Int × Int)} {ts : List Tok}, ss.length = ts.length → ((ss.zip (ts.map Tok.n)).all fun p => decide (p.1.1 ≤ p.2) && decide (p.2 ≤ p.1.2)) = true → numsC ss ts = .ok (ts.map Tok.n)
  | [], [], _, _ => rfl
  | [], _ :: _, h, _ => by simp at h
  | _ :: _, [], h, _ => by simp at h
  | s :: ss, t :: ts, h, h2 => by
    simp only [List.map_cons, List.zip_cons_cons, List.all_cons, Bool.and_eq_true, decide_eq_true_eq] at h2
    rw [numsC, if_neg (by omega), nums_in (by simpa using h) (by simpa using h2.2)]
    rfl
theorem spans_len (k cnt : Nat) (h : wordsK k = []) (hp : pathK k = false) (hd : dashK k = false) : (spansK k cnt).length = countC k := by
  have hk : k ≤ 12 := by unfold pathK at hp; have := of_decide_eq_false hp; omega
  have hd' : k ≠ 12 := of_decide_eq_false hd
  rcases (by omega : k = 0 ∨ k = 1 ∨ k = 2 ∨ k = 3 ∨ k = 4 ∨ k = 5 ∨ k = 6 ∨ k = 7 ∨ k = 8 ∨ k = 9 ∨ k = 10 ∨ k = 11) with rfl | rfl | rfl | rfl | rfl | rfl | rfl | rfl | rfl | rfl | rfl | rfl
  all_goals first | rfl | (exact absurd h (by decide))
theorem dash_words {k : Nat} (h : dashK k = true) : wordsK k = [] ∧ pathK k = false ∧ ∀ cnt, (spansK k cnt).length = cnt := by
  obtain rfl : k = 12 := of_decide_eq_true h
  exact ⟨rfl, rfl, fun cnt => by simp [spansK]⟩
/-- The line of a good command is read as it. -/
theorem read_line {first : Bool} {c : Cm} {ts : List Tok} (en : Int) (hg : goodK first c = true) (hv : ∀ s ∈ c.path, s.v.length = 6) (h : ts.map er = erC c) :
    ∃ pl r, readC first (ts, en) = .ok ⟨c.kind.toNat, pl, r, en⟩ ∧ cmdC ⟨c.kind.toNat, pl, r, en⟩ = .ok ⟨c.kind, c.n, c.path, pl⟩ := by
  cases ts with
  | nil => simp [erC] at h
  | cons t r =>
    simp only [erC, List.map_cons, List.cons.injEq] at h
    obtain ⟨ht, hr⟩ := h
    refine ⟨t.place, r, ?_⟩
    unfold goodK at hg
    split at hg
    · cases hg
    rename_i hk
    have h1 : 1 ≤ c.kind := by omega
    have h2 : c.kind ≤ 15 := by omega
    have hf : decide (c.kind = 1) = first := by
      by_cases e : decide (c.kind = 1) = first
      · exact e
      · exact absurd (.inr (.inr e)) hk
    have hname : nameS t = c.kind.toNat := by
      simp only [er, Prod.mk.injEq] at ht
      unfold nameS
      rw [if_pos ht.1, ht.2.1, name_kind _ h1 h2]
    have hfirst : ¬ (nameS t = 0 ∨ decide (nameS t = 1) ≠ first) := by
      rw [hname]
      have : decide (c.kind.toNat = 1) = decide (c.kind = 1) := by
        by_cases e : c.kind = 1
        · simp [e]
        · rw [decide_eq_false e, decide_eq_false (by omega)]
      rw [this]
      intro e
      rcases e with e | e
      · omega
      · exact e hf
    obtain ⟨k, hkk⟩ : ∃ k, c.kind.toNat = k := ⟨_, rfl⟩
    have hki : (k : Int) = c.kind := by omega
    rw [readC, if_neg hfirst, hname]
    unfold argsE at hr
    rw [hkk] at hr hg ⊢
    by_cases hp : pathK k = true
    · rw [if_pos hp] at hg
      simp only [Bool.and_eq_true, decide_eq_true_eq] at hg
      have hw : wordsK k = [] := by
        have : 13 ≤ k := of_decide_eq_true hp
        unfold wordsK
        rw [if_neg (by omega), if_neg (by omega), if_neg (by omega)]
      rw [if_pos hw, if_pos hp, hg.1] at hr
      have hps : parseS r en = .ok c.path := parse_of false false c.path r en hg.2 hv (by rw [hr]; exact (shape_pcs c.path pen0).symm)
      have hb : badS k r en = -1 := by
        unfold badS
        rw [if_pos hp, hps]
      rw [hb, if_neg (by omega)]
      refine ⟨rfl, ?_⟩
      unfold cmdC
      simp only [hp, if_true, hps, hki, hg.1]
    · have hp' : pathK k = false := by simpa using hp
      rw [if_neg hp] at hg hr
      have hpath : c.path = [] := by
        by_cases e : c.path = []
        · exact e
        · rw [if_pos e] at hg; cases hg
      rw [if_neg (by simp [hpath])] at hg
      have hdash : ¬ (dashK k = true ∧ 0 < c.n.length ∧ (c.n.length < 3 ∨ c.n.length % 2 = 0 ∨ 17 < c.n.length)) := fun h => by rw [if_pos h] at hg; cases hg
      rw [if_neg hdash] at hg
      have hcount : ¬ (dashK k = false ∧ c.n.length ≠ (if wordsK k = [] then countC k else 1)) := fun h => by rw [if_pos h] at hg; cases hg
      rw [if_neg hcount] at hg
      simp only [Bool.and_eq_true] at hg
      rw [List.append_nil] at hr
      by_cases hw : wordsK k = []
      · rw [if_pos hw] at hr
        obtain ⟨hn, hk2⟩ := num_toks hr
        have hrl : r.length = c.n.length := by rw [← hn]; simp
        have hlen : (spansK k c.n.length).length = c.n.length := by
          by_cases hd : dashK k = true
          · exact (dash_words hd).2.2 _
          · have hd' : dashK k = false := by simpa using hd
            rw [spans_len k _ hw hp' hd']
            rw [if_pos hw] at hcount
            by_cases e : c.n.length = countC k
            · exact e.symm
            · exact absurd ⟨hd', e⟩ hcount
        have hb : badS k r en = -1 := by
          unfold badS
          rw [if_neg hp]
          by_cases hd : dashK k = true
          · rw [if_pos hd, if_neg, only_nums hk2 (by omega)]
            intro hh
            apply hdash
            refine ⟨hd, by omega, ?_⟩
            rcases hh.2.2 with e | e
            · left; omega
            · right; left; omega
          · have hd' : dashK k = false := by simpa using hd
            rw [if_neg hd, if_neg (by simp [hw]), only_nums hk2]
            rw [← spans_len k c.n.length hw hp' hd', hlen]
            omega
        rw [hb, if_neg (by omega)]
        refine ⟨rfl, ?_⟩
        unfold cmdC
        simp only [hp', hw, ne_eq, not_true_eq_false, if_false, Bool.false_eq_true]
        rw [if_neg (fun e => hdash ⟨e.1, by omega, by omega⟩), hrl, nums_in (by omega) (by rw [hn]; exact hg.1), hn]
        simp only [hg.2, if_true, hki, hpath]
      · rw [if_neg hw] at hr
        have hd' : dashK k = false := by
          by_cases hd : dashK k = true
          · exact absurd (dash_words hd).1 hw
          · simpa using hd
        rw [if_neg hw] at hcount
        have hone : c.n.length = 1 := by
          by_cases e : c.n.length = 1
          · exact e
          · exact absurd ⟨hd', e⟩ hcount
        obtain ⟨v, hcv⟩ : ∃ v, c.n = [v] := by
          cases hc : c.n with
          | nil => rw [hc] at hone; simp at hone
          | cons v l =>
            cases l with
            | nil => exact ⟨v, rfl⟩
            | cons _ _ => rw [hc] at hone; simp at hone
        rw [hcv] at hr hg
        cases r with
        | nil => simp at hr
        | cons u r =>
          simp only [List.map_cons, List.map_nil, List.cons.injEq, List.map_eq_nil_iff, er, Prod.mk.injEq] at hr
          obtain ⟨⟨hu1, hu2, _⟩, rfl⟩ := hr
          have hk3 : k = 5 ∨ k = 9 ∨ k = 10 := by
            unfold wordsK at hw
            by_cases e5 : k = 5
            · exact .inl e5
            · by_cases e9 : k = 9
              · exact .inr (.inl e9)
              · by_cases e10 : k = 10
                · exact .inr (.inr e10)
                · rw [if_neg e5, if_neg e9, if_neg e10] at hw
                  exact absurd rfl hw
          have hvv : wordC k v ∈ wordsK k ∧ idxW (wordC k v) (wordsK k) 0 = v := by
            have h3 := hg.1
            rcases hk3 with rfl | rfl | rfl
            · simp [spansK] at h3
              rcases (by omega : v = 0 ∨ v = 1) with rfl | rfl <;> decide
            · simp [spansK] at h3
              rcases (by omega : v = 0 ∨ v = 1 ∨ v = 2) with rfl | rfl | rfl <;> decide
            · simp [spansK] at h3
              rcases (by omega : v = 0 ∨ v = 1 ∨ v = 2) with rfl | rfl | rfl <;> decide
          have hb : badS k [u] en = -1 := by
            unfold badS
            rw [if_neg hp, if_neg (by simp [hd']), if_pos hw]
            simp only
            rw [hu2, if_pos hvv.1]
            simp [onlyS, hu1]
          rw [hb, if_neg (by omega)]
          refine ⟨rfl, ?_⟩
          unfold cmdC
          simp only [hp', Bool.false_eq_true, if_false]
          rw [if_pos hw]
          simp only [hu2, hvv.2, hcv, hki, hpath]
def strip (c : Cm) : Int × List Int × List Sg := (c.kind, c.n, c.path)
def goodL : Bool → List Cm → Bool
  | _, [] => true
  | first, c :: r => goodK first c && goodL false r
theorem goodL_all : ∀ l : List Cm, goodL false l = l.all (goodK false)
  | [] => rfl
  | c :: r => by rw [goodL, goodL_all r, List.all_cons]
theorem good_L {l : List Cm} (h : goodC l = true) : l ≠ [] ∧ goodL true l = true ∧ l.length ≤ 4096 := by
  unfold goodC at h
  cases l with
  | nil => simp at h
  | cons c r =>
    simp only [Bool.and_eq_true, decide_eq_true_eq] at h
    refine ⟨by simp, ?_, h.2⟩
    rw [goodL, goodL_all, h.1.1, h.1.2]
    rfl
theorem reads_good : ∀ (l : List Cm) (first : Bool) (L : List (List Tok × Int)), goodL first l = true → (∀ c ∈ l, ∀ s ∈ c.path, s.v.length = 6) → L.map (fun x => x.1.map er) = l.map erC →
    ∃ ys, readsC first L = .ok ys ∧ ys.length = l.length ∧ ∀ i, i + l.length ≤ 4096 → ∃ l', cmdsC ys i = (l', 0, 0) ∧ l'.map strip = l.map strip
  | [], first, L, _, _, h => by
    cases L with
    | nil => exact ⟨[], rfl, rfl, fun i _ => ⟨[], rfl, rfl⟩⟩
    | cons x L => simp at h
  | c :: l, first, [], _, _, h => by simp at h
  | c :: l, first, (ts, en) :: L, hg, hv, h => by
    simp only [List.map_cons, List.cons.injEq] at h
    rw [goodL, Bool.and_eq_true] at hg
    obtain ⟨pl, r, h1, h2⟩ := read_line en hg.1 (hv c (by simp)) h.1
    obtain ⟨ys, h3, h4, h5⟩ := reads_good l false L hg.2 (fun x hx => hv x (by simp [hx])) h.2
    refine ⟨⟨c.kind.toNat, pl, r, en⟩ :: ys, ?_, by simp [h4], fun i hi => ?_⟩
    · rw [readsC, h1]
      simp only [h3]
    · simp only [List.length_cons] at hi
      obtain ⟨l', h6, h7⟩ := h5 (i + 1) (by omega)
      refine ⟨⟨c.kind, c.n, c.path, pl⟩ :: l', ?_, ?_⟩
      · rw [cmdsC, if_neg (by omega), h2]
        simp only [h6]
      · simp [h7, strip]
/-- A text of lines that are commands, and of empty ones. -/
theorem parse_lines {L : List (List Pc)} {z : List Pc} {l : List Cm} (hL : ∀ x ∈ L, pcOk x) (hz : pcOk z) (he : ((L ++ [z]).map erL).filter (fun e => !e.isEmpty) = l.map erC) (hg : goodC l = true)
    (hv : ∀ c ∈ l, ∀ s ∈ c.path, s.v.length = 6) (hs : (textLn L ++ render z).length ≤ 1048576) : ∃ l', parseC (textLn L ++ render z) = (l', 0, 0) ∧ l'.map strip = l.map strip := by
  obtain ⟨hne, hgl, hlen⟩ := good_L hg
  unfold parseC
  rw [if_neg (by omega), cut_lines L z 0 hL hz]
  simp only
  have h := lines_er ((textLn L ++ render z).length : Int) L z 0 (0 + (textLn L).length)
  rw [he] at h
  obtain ⟨ys, h1, h2, h3⟩ := reads_good l true _ hgl hv h
  rw [h1]
  cases ys with
  | nil =>
    exfalso
    cases l with
    | nil => exact hne rfl
    | cons _ _ => simp at h2
  | cons y ys => exact h3 0 (by omega)
end Go.Proofs.YtefajplbgmikdaaDoor

/-
  The script of good commands, its pieces and its length; empty lines, and blanks and commas at the ends of lines. No program in this text.
-/
namespace Go.Proofs.YtefajplbgmikdaaDoor
open Go.Lib

def Sm (n : Int) : Prop := -2147483648 < n ∧ n < 2147483648
theorem itoa_short {n : Int} (h : Sm n) : (itoa n).length ≤ 11 := by
  have hd : ∀ u : Nat, u < 10000000000 → nDigits u ≤ 10 := by
    intro u hu
    by_cases hc : nDigits u ≤ 10
    · exact hc
    · exfalso
      have h1 := nDigits_pos u
      obtain ⟨k, hk⟩ : ∃ k, nDigits u = k + 11 := ⟨nDigits u - 11, by omega⟩
      have h2 : 10 ^ (k + 10) ≤ u := by
        by_cases h3 : 10 ^ (k + 10) ≤ u
        · exact h3
        · exfalso
          have : ∀ (m u : Nat), u < 10 ^ (m + 1) → nDigits u ≤ m + 1 := by
            intro m
            induction m with
            | zero => intro u hu; rw [nDigits_small (by simpa using hu)]; exact Nat.le_refl _
            | succ m ih =>
              intro u hu
              by_cases hs : u < 10
              · rw [nDigits_small hs]; omega
              · rw [nDigits_big hs]
                have := ih (u / 10) (by rw [Nat.pow_succ] at hu; omega)
                omega
          rw [show k + 10 = k + 9 + 1 by omega] at h3
          have := this (k + 9) u (by omega)
          omega
      have h3 : 10 ^ 10 ≤ 10 ^ (k + 10) := Nat.pow_le_pow_right (by decide) (by omega)
      omega
  unfold Sm at h
  unfold itoa
  split
  · have := hd n.natAbs (by omega)
    rw [List.length_cons, decDigits_length]
    omega
  · have := hd n.toNat (by omega)
    rw [decDigits_length]
    omega
theorem itoa_bytes (n : Int) : ∀ c ∈ itoa n, c ≠ 10 := by
  intro c hc e
  subst e
  unfold itoa at hc
  split at hc
  · rcases List.mem_cons.1 hc with h | h
    · cases h
    · have := dec_digit _ _ h
      simp at this
  · have := dec_digit _ _ hc
    simp at this
theorem pc_bytes : ∀ (l : List Pc), pcOk l → ∀ c ∈ render l, c ≠ 10
  | [], _, c, h => by simp [render] at h
  | .w a :: r, h, c, hc => by
    obtain ⟨⟨_, ha⟩, _, hr⟩ := h
    have e : render (.w a :: r) = a ++ render r := rfl
    rw [e] at hc
    rcases List.mem_append.1 hc with hc | hc
    · rintro rfl
      have := ha 10 hc
      exact absurd this (by decide)
    · exact pc_bytes r hr c hc
  | .n a :: r, h, c, hc => by
    obtain ⟨_, _, hr⟩ := h
    have e : render (.n a :: r) = itoa a ++ render r := rfl
    rw [e] at hc
    rcases List.mem_append.1 hc with hc | hc
    · exact itoa_bytes a c hc
    · exact pc_bytes r hr c hc
  | .b a :: r, h, c, hc => by
    obtain ⟨ha, hr⟩ := h
    have e : render (.b a :: r) = a :: render r := rfl
    rw [e] at hc
    rcases List.mem_cons.1 hc with rfl | hc
    · rintro rfl
      exact absurd ha (by decide)
    · exact pc_bytes r hr c hc
theorem pcOk_app : ∀ (a b : List Pc), pcOk a → pcOk b → isW b = false → isN b = false → pcOk (a ++ b)
  | [], b, _, hb, _, _ => hb
  | .w l :: r, b, h, hb, h1, h2 => by
    obtain ⟨h3, h4, h5⟩ := h
    refine ⟨h3, ?_, pcOk_app r b h5 hb h1 h2⟩
    cases r with
    | nil => exact h1
    | cons p r => cases p <;> first | exact h4 | rfl
  | .n l :: r, b, h, hb, h1, h2 => by
    obtain ⟨h3, h4, h5⟩ := h
    refine ⟨h3, ?_, pcOk_app r b h5 hb h1 h2⟩
    cases r with
    | nil => exact h2
    | cons p r => cases p <;> first | exact h4 | rfl
  | .b c :: r, b, h, hb, h1, h2 => ⟨h.1, pcOk_app r b h.2 hb h1 h2⟩
theorem cm_render_app (a b : List Pc) : render (a ++ b) = render a ++ render b := by simp [render]
theorem cm_render_cons (p : Pc) (a : List Pc) : render (p :: a) = pcB p ++ render a := rfl

def argPc (k : Nat) : List Int → List Pc
  | [] => []
  | n :: r => .b 32 :: (if wordsK k = [] then .n n else .w (wordC k n)) :: argPc k r
/-- The pieces of a command's line. -/
def linePc (c : Cm) : List Pc := .w (nameK c.kind.toNat) :: (argPc c.kind.toNat c.n ++ (if pathK c.kind.toNat = true then .b 32 :: sepP (pcsS c.path) else []))
theorem arg_render (k : Nat) : ∀ l : List Int, render (argPc k l) = l.flatMap fun n => 32 :: wordC k n
  | [] => rfl
  | n :: r => by
    rw [argPc, cm_render_cons, cm_render_cons, arg_render k r, List.flatMap_cons]
    unfold wordC
    by_cases hw : wordsK k = []
    · simp [pcB, if_pos hw]
    · simp [pcB, if_neg hw]
theorem line_text (c : Cm) : lineC c = render (linePc c) ++ [10] := by
  unfold lineC linePc
  rw [cm_render_cons, cm_render_app, arg_render]
  by_cases hp : pathK c.kind.toNat = true
  · rw [if_pos hp, if_pos hp, cm_render_cons, text_render]
    simp [pcB]
  · rw [if_neg hp, if_neg hp]
    simp [pcB, render]
theorem text_lines : ∀ l : List Cm, textC l = textLn (l.map linePc)
  | [] => rfl
  | c :: l => by
    have ih := text_lines l
    unfold textC at ih ⊢
    rw [List.flatMap_cons, List.map_cons, textLn_cons, ih, line_text]
    simp
theorem erL_app (a b : List Pc) : erL (a ++ b) = erL a ++ erL b := by simp [erL]
theorem arg_er (k : Nat) : ∀ l : List Int, erL (argPc k l) = if wordsK k = [] then l.map numE else l.map fun n => (1, wordC k n, 0)
  | [] => by simp [argPc, erL]
  | n :: r => by
    have ih := arg_er k r
    unfold erL at ih ⊢
    rw [argPc, List.flatMap_cons, List.flatMap_cons, ih]
    by_cases hw : wordsK k = []
    · simp [pcE, if_pos hw]
    · simp [pcE, if_neg hw]
theorem line_er (c : Cm) : erL (linePc c) = erC c := by
  unfold linePc erC argsE
  rw [show ∀ p l, erL (p :: l) = pcE p ++ erL l from fun _ _ => rfl, erL_app, arg_er]
  by_cases hp : pathK c.kind.toNat = true
  · rw [if_pos hp, if_pos hp]
    have : erL (.b 32 :: sepP (pcsS c.path)) = (pcsS c.path).flatMap pcE := by
      have := sep_er (pcsS c.path)
      simpa [erL, pcE] using this
    rw [this]
    rfl
  · rw [if_neg hp, if_neg hp]
    rfl
theorem zip_in : ∀ {ss : List (Int × Int)} {l : List Int}, ss.length = l.length → (∀ s ∈ ss, -2147483648 < s.1 ∧ s.2 < 2147483648) → ((ss.zip l).all fun p => decide (p.1.1 ≤ p.2) && decide (p.2 ≤ p.1.2)) = true → ∀ n ∈ l, Sm n
  | [], [], _, _, _, n, hn => by simp at hn
  | [], _ :: _, h, _, _, _, _ => by simp at h
  | _ :: _, [], h, _, _, _, _ => by simp at h
  | s :: ss, m :: l, h, hb, h2, n, hn => by
    simp only [List.zip_cons_cons, List.all_cons, Bool.and_eq_true, decide_eq_true_eq] at h2
    rcases List.mem_cons.1 hn with rfl | hn
    · have := hb s (by simp)
      unfold Sm; omega
    · exact zip_in (by simpa using h) (fun x hx => hb x (by simp [hx])) (by simpa using h2.2) n hn
theorem spans_in (k cnt : Nat) : ∀ s ∈ spansK k cnt, -2147483648 < s.1 ∧ s.2 < 2147483648 := by
  intro s hs
  unfold spansK at hs
  (repeat' split at hs) <;> simp only [List.mem_cons, List.not_mem_nil, or_false, List.mem_replicate] at hs
  all_goals first | (rcases hs with rfl | rfl | rfl | rfl | rfl <;> decide) | (rw [hs.2]; decide) | (rw [hs]; decide) | exact absurd hs (by simp)
/-- What a good command is, kind by kind. -/
theorem good_kinds {first : Bool} {c : Cm} (hg : goodK first c = true) : (1 ≤ c.kind ∧ c.kind ≤ 15 ∧ decide (c.kind = 1) = first) ∧ (∀ n ∈ c.n, Sm n) ∧
    ((pathK c.kind.toNat = true ∧ c.n = [] ∧ goodS c.path = true ∧ wordsK c.kind.toNat = []) ∨ (pathK c.kind.toNat = false ∧ c.path = [] ∧ (wordsK c.kind.toNat ≠ [] → ∃ v, c.n = [v] ∧ wordC c.kind.toNat v ∈ wordsK c.kind.toNat) ∧ (c.n.length ≤ 17))) := by
  unfold goodK at hg
  split at hg
  · cases hg
  rename_i hk
  have h1 : 1 ≤ c.kind := by omega
  have h2 : c.kind ≤ 15 := by omega
  have hf : decide (c.kind = 1) = first := by
    by_cases e : decide (c.kind = 1) = first
    · exact e
    · exact absurd (.inr (.inr e)) hk
  refine ⟨⟨h1, h2, hf⟩, ?_⟩
  obtain ⟨k, hkk⟩ : ∃ k, c.kind.toNat = k := ⟨_, rfl⟩
  rw [hkk] at hg ⊢
  by_cases hp : pathK k = true
  · rw [if_pos hp] at hg
    simp only [Bool.and_eq_true, decide_eq_true_eq] at hg
    have hw : wordsK k = [] := by
      have : 13 ≤ k := of_decide_eq_true hp
      unfold wordsK
      rw [if_neg (by omega), if_neg (by omega), if_neg (by omega)]
    exact ⟨by simp [hg.1], .inl ⟨hp, hg.1, hg.2, hw⟩⟩
  · have hp' : pathK k = false := by simpa using hp
    rw [if_neg hp] at hg
    have hpath : c.path = [] := by
      by_cases e : c.path = []
      · exact e
      · rw [if_pos e] at hg; cases hg
    rw [if_neg (by simp [hpath])] at hg
    have hdash : ¬ (dashK k = true ∧ 0 < c.n.length ∧ (c.n.length < 3 ∨ c.n.length % 2 = 0 ∨ 17 < c.n.length)) := fun h => by rw [if_pos h] at hg; cases hg
    rw [if_neg hdash] at hg
    have hcount : ¬ (dashK k = false ∧ c.n.length ≠ (if wordsK k = [] then countC k else 1)) := fun h => by rw [if_pos h] at hg; cases hg
    rw [if_neg hcount] at hg
    simp only [Bool.and_eq_true] at hg
    by_cases hw : wordsK k = []
    · have hlen : (spansK k c.n.length).length = c.n.length ∧ c.n.length ≤ 17 := by
        by_cases hd : dashK k = true
        · refine ⟨(dash_words hd).2.2 _, ?_⟩
          by_cases h0 : 17 < c.n.length
          · exact absurd ⟨hd, by omega, by omega⟩ hdash
          · omega
        · have hd' : dashK k = false := by simpa using hd
          rw [if_pos hw] at hcount
          have e : c.n.length = countC k := by
            by_cases e : c.n.length = countC k
            · exact e
            · exact absurd ⟨hd', e⟩ hcount
          refine ⟨by rw [spans_len k _ hw hp' hd', e], ?_⟩
          rw [e]
          have : k ≤ 15 := by omega
          unfold countC
          rcases (by omega : k = 0 ∨ k = 1 ∨ k = 2 ∨ k = 3 ∨ k = 4 ∨ k = 5 ∨ k = 6 ∨ k = 7 ∨ k = 8 ∨ k = 9 ∨ k = 10 ∨ k = 11 ∨ k = 12 ∨ k = 13 ∨ k = 14 ∨ k = 15) with rfl | rfl | rfl | rfl | rfl | rfl | rfl | rfl | rfl | rfl | rfl | rfl | rfl | rfl | rfl | rfl <;> decide
      refine ⟨zip_in hlen.1 (spans_in k _) hg.1, .inr ⟨hp', hpath, fun e => absurd hw e, hlen.2⟩⟩
    · have hd' : dashK k = false := by
        by_cases hd : dashK k = true
        · exact absurd (dash_words hd).1 hw
        · simpa using hd
      rw [if_neg hw] at hcount
      have hone : c.n.length = 1 := by
        by_cases e : c.n.length = 1
        · exact e
        · exact absurd ⟨hd', e⟩ hcount
      have hk3 : k = 5 ∨ k = 9 ∨ k = 10 := by
        unfold wordsK at hw
        by_cases e5 : k = 5
        · exact .inl e5
        · by_cases e9 : k = 9
          · exact .inr (.inl e9)
          · by_cases e10 : k = 10
            · exact .inr (.inr e10)
            · rw [if_neg e5, if_neg e9, if_neg e10] at hw
              exact absurd rfl hw
      obtain ⟨v, hcv⟩ : ∃ v, c.n = [v] := by
        cases hc : c.n with
        | nil => rw [hc] at hone; simp at hone
        | cons v l =>
          cases l with
          | nil => exact ⟨v, rfl⟩
          | cons _ _ => rw [hc] at hone; simp at hone
      refine ⟨?_, .inr ⟨hp', hpath, fun _ => ⟨v, hcv, ?_⟩, by omega⟩⟩
      · refine zip_in (ss := spansK k c.n.length) ?_ (spans_in k _) hg.1
        rw [hone]
        rcases hk3 with rfl | rfl | rfl <;> rfl
      · have h3 := hg.1
        rw [hcv] at h3
        rcases hk3 with rfl | rfl | rfl
        · simp [spansK] at h3
          rcases (by omega : v = 0 ∨ v = 1) with rfl | rfl <;> decide
        · simp [spansK] at h3
          rcases (by omega : v = 0 ∨ v = 1 ∨ v = 2) with rfl | rfl | rfl <;> decide
        · simp [spansK] at h3
          rcases (by omega : v = 0 ∨ v = 1 ∨ v = 2) with rfl | rfl | rfl <;> decide
theorem words_fine : ∀ k : Int, 1 ≤ k → k ≤ 15 → (nameK k.toNat ≠ [] ∧ (∀ c ∈ nameK k.toNat, kd c.toNat = 2) ∧ (nameK k.toNat).length ≤ 6) ∧ ∀ w ∈ wordsK k.toNat, w ≠ [] ∧ (∀ c ∈ w, kd c.toNat = 2) ∧ w.length ≤ 7 := by
  intro k h1 h2
  rcases kind_cases15 h1 h2 with rfl | rfl | rfl | rfl | rfl | rfl | rfl | rfl | rfl | rfl | rfl | rfl | rfl | rfl | rfl <;> decide
theorem arg_ok {k : Nat} (T : List Pc) (hT : pcOk T) (h1 : isN T = false) (h2 : isW T = false) : ∀ l : List Int, (∀ n ∈ l, Sm n) → (∀ n ∈ l, wordsK k = [] ∨ (wordC k n ≠ [] ∧ ∀ c ∈ wordC k n, kd c.toNat = 2)) →
    pcOk (argPc k l ++ T) ∧ isN (argPc k l ++ T) = false ∧ isW (argPc k l ++ T) = false
  | [], _, _ => ⟨hT, h1, h2⟩
  | n :: r, hs, hw => by
    have ih := arg_ok T hT h1 h2 r (fun x hx => hs x (by simp [hx])) (fun x hx => hw x (by simp [hx]))
    have hn := hs n (by simp)
    unfold Sm at hn
    refine ⟨?_, rfl, rfl⟩
    rw [argPc, List.cons_append, List.cons_append]
    refine ⟨by decide, ?_⟩
    by_cases hk : wordsK k = []
    · rw [if_pos hk]
      exact ⟨by omega, ih.2.1, ih.1⟩
    · rw [if_neg hk]
      exact ⟨(hw n (by simp)).resolve_left hk, ih.2.2, ih.1⟩
theorem line_ok {first : Bool} {c : Cm} (hg : goodK first c = true) : pcOk (linePc c) := by
  obtain ⟨⟨h1, h2, _⟩, hs, hk⟩ := good_kinds hg
  have hf := words_fine c.kind h1 h2
  have h : ∀ T, pcOk T → isN T = false → isW T = false → pcOk (.w (nameK c.kind.toNat) :: (argPc c.kind.toNat c.n ++ T)) := by
    intro T hT h3 h4
    have := arg_ok (k := c.kind.toNat) T hT h3 h4 c.n hs (fun n hn => by
      rcases hk with ⟨_, hn0, _⟩ | ⟨_, _, hw, _⟩
      · rw [hn0] at hn; simp at hn
      · by_cases e : wordsK c.kind.toNat = []
        · exact .inl e
        · obtain ⟨v, hv, hm⟩ := hw e
          rw [hv, List.mem_singleton] at hn
          subst hn
          have := hf.2 _ hm
          exact .inr ⟨this.1, this.2.1⟩)
    exact ⟨⟨hf.1.1, hf.1.2.1⟩, this.2.2, this.1⟩
  unfold linePc
  rcases hk with ⟨hp, _, hgs, _⟩ | ⟨hp, _⟩
  · rw [if_pos hp]
    exact h _ ⟨by decide, sep_ok _ (pcs_fine (good_parts hgs).2.2.1)⟩ rfl rfl
  · rw [hp]
    exact h [] trivial rfl rfl
theorem arg_len (k : Nat) : ∀ l : List Int, (∀ n ∈ l, Sm n) → (∀ n ∈ l, wordsK k = [] ∨ (wordC k n).length ≤ 11) → (render (argPc k l)).length ≤ 12 * l.length
  | [], _, _ => by simp [argPc, render]
  | n :: r, hs, hw => by
    have ih := arg_len k r (fun x hx => hs x (by simp [hx])) (fun x hx => hw x (by simp [hx]))
    rw [argPc, cm_render_cons, cm_render_cons]
    have : (pcB (if wordsK k = [] then .n n else .w (wordC k n))).length ≤ 11 := by
      by_cases e : wordsK k = []
      · rw [if_pos e]; exact itoa_short (hs n (by simp))
      · rw [if_neg e]; exact (hw n (by simp)).resolve_left e
    simp only [List.length_append, List.length_cons, pcB, List.length_nil] at this ⊢
    omega
theorem pcs_short : ∀ l : List Sg, (∀ s ∈ l, goodOne s = true) → ((pcsS l).map fun p => (pcB p).length + 1).sum ≤ 86 * l.length
  | [], _ => Nat.le_refl _
  | s :: l, h => by
    have ih := pcs_short l (fun x hx => h x (by simp [hx]))
    have hs := nums_small (h s (by simp))
    have hk := (good_all (h s (by simp))).1
    have hf := ruleK_facts hk.1 hk.2
    have h1 : ∀ (ns : List Int), (∀ n ∈ ns, Co n) → ((ns.map Pc.n).map fun p => (pcB p).length + 1).sum ≤ 12 * ns.length := by
      intro ns
      induction ns with
      | nil => intro _; simp
      | cons n ns ih =>
        intro hn
        have h2 := ih (fun x hx => hn x (by simp [hx]))
        have h4 := itoa_short (n := n) (hn n (by simp))
        simp only [List.map_cons, List.sum_cons, List.length_cons, pcB] at h2 ⊢
        omega
    have h2 := h1 (numsOf s) hs
    have h3 : (numsOf s).length ≤ 7 := by
      unfold numsOf
      rw [List.length_append, List.length_take]
      have := hf.2.2.2.2.2.2.2.2.2.2
      split <;> simp <;> omega
    rw [sum_pcs, List.length_cons]
    have h4 : (pcB (.w [letterB s.kind])).length + 1 = 2 := rfl
    omega
/-- How long a good command's line is. -/
theorem line_len {first : Bool} {c : Cm} (hg : goodK first c = true) : (lineC c).length ≤ 8 + 12 * c.n.length + 86 * c.path.length := by
  obtain ⟨⟨h1, h2, _⟩, hs, hk⟩ := good_kinds hg
  have hf := words_fine c.kind h1 h2
  have ha := arg_len c.kind.toNat c.n hs (fun n hn => by
      rcases hk with ⟨_, hn0, _⟩ | ⟨_, _, hw, _⟩
      · rw [hn0] at hn; simp at hn
      · by_cases e : wordsK c.kind.toNat = []
        · exact .inl e
        · obtain ⟨v, hv, hm⟩ := hw e
          rw [hv, List.mem_singleton] at hn
          subst hn
          have := hf.2 _ hm
          exact .inr (by omega))
  rw [line_text]
  unfold linePc
  rw [cm_render_cons, cm_render_app]
  have hn : (pcB (.w (nameK c.kind.toNat))).length ≤ 6 := hf.1.2.2
  simp only [List.length_append, List.length_cons, List.length_nil]
  rcases hk with ⟨hp, _, hgs, _⟩ | ⟨hp, hpp, _⟩
  · rw [if_pos hp, cm_render_cons]
    have e1 := sep_len (pcsS c.path)
    have e2 := pcs_short c.path (good_parts hgs).2.2.1
    have e3 : (pcB (.b 32)).length = 1 := rfl
    rw [List.length_append, e3]
    omega
  · rw [hp]
    simp only [Bool.false_eq_true, if_false, render, List.flatMap_nil, List.length_nil]
    simp only [render] at ha
    omega

/-- A text of which so many ends of lines became a blank, a comma and two more lines. -/
def replS : Nat → List UInt8 → List UInt8
  | _, [] => []
  | m, c :: r => if c = 10 ∧ 0 < m then [32, 44, 10, 44, 10] ++ replS (m - 1) r else c :: replS m r
theorem repl_zero : ∀ l, replS 0 l = l
  | [] => rfl
  | c :: r => by rw [replS, if_neg (by omega), repl_zero r]
theorem repl_line (m : Nat) : ∀ (a b : List UInt8), (∀ c ∈ a, c ≠ 10) → replS m (a ++ 10 :: b) = a ++ (if 0 < m then [32, 44, 10, 44, 10] ++ replS (m - 1) b else 10 :: replS m b)
  | [], b, _ => by
    rw [List.nil_append, List.nil_append, replS]
    by_cases h : 0 < m
    · rw [if_pos ⟨rfl, h⟩, if_pos h]
    · rw [if_neg (fun e => h e.2), if_neg h]
  | c :: a, b, h => by
    rw [List.cons_append, replS, if_neg (fun e => h c (by simp) e.1), repl_line m a b (fun x hx => h x (by simp [hx]))]
    rfl
theorem repl_lines : ∀ (L : List (List Pc)) (m : Nat), (∀ l ∈ L, pcOk l) → ∃ M, replS m (textLn L) = textLn M ∧ (∀ l ∈ M, pcOk l) ∧ (M.map erL).filter (fun e => !e.isEmpty) = (L.map erL).filter (fun e => !e.isEmpty) ∧ (textLn M).length ≤ (textLn L).length + 4 * m
  | [], m, _ => ⟨[], rfl, by simp, rfl, by simp [textLn]⟩
  | l :: L, m, h => by
    have hl := h l (by simp)
    rw [textLn_cons, repl_line m _ _ (pc_bytes l hl)]
    by_cases hm : 0 < m
    · obtain ⟨M, h1, h2, h3, h4⟩ := repl_lines L (m - 1) (fun x hx => h x (by simp [hx]))
      refine ⟨(l ++ [.b 32, .b 44]) :: [.b 44] :: M, ?_, ?_, ?_, ?_⟩
      · rw [if_pos hm, h1, textLn_cons, textLn_cons, cm_render_app]
        simp [render, pcB]
      · intro x hx
        rcases List.mem_cons.1 hx with rfl | hx
        · exact pcOk_app l _ hl ⟨by decide, by decide, trivial⟩ rfl rfl
        · rcases List.mem_cons.1 hx with rfl | hx
          · exact ⟨by decide, trivial⟩
          · exact h2 x hx
      · have e1 : erL (l ++ [.b 32, .b 44]) = erL l := by simp [erL, pcE]
        have e2 : erL [.b 44] = [] := rfl
        rw [List.map_cons, List.map_cons, List.map_cons, e1, e2, List.filter_cons, List.filter_cons, List.filter_cons, h3]
        rfl
      · rw [textLn_cons, textLn_cons, cm_render_app]
        simp only [List.length_append, List.length_cons, render, pcB, List.flatMap_cons, List.flatMap_nil, List.length_nil] at h4 ⊢
        omega
    · obtain ⟨M, h1, h2, h3, h4⟩ := repl_lines L m (fun x hx => h x (by simp [hx]))
      refine ⟨l :: M, ?_, ?_, ?_, ?_⟩
      · rw [if_neg hm, h1, textLn_cons]
      · intro x hx
        rcases List.mem_cons.1 hx with rfl | hx
        · exact hl
        · exact h2 x hx
      · rw [List.map_cons, List.map_cons, List.filter_cons, List.filter_cons, h3]
      · rw [textLn_cons]
        simp only [List.length_append, List.length_cons] at h4 ⊢
        omega
theorem goodL_of : ∀ {l : List Cm} {first : Bool}, goodL first l = true → ∀ c ∈ l, ∃ f, goodK f c = true
  | [], _, _, c, hc => by simp at hc
  | x :: l, first, h, c, hc => by
    rw [goodL, Bool.and_eq_true] at h
    rcases List.mem_cons.1 hc with rfl | hc
    · exact ⟨first, h.1⟩
    · exact goodL_of h.2 c hc
theorem lines_ok {l : List Cm} (hg : goodC l = true) : ∀ x ∈ l.map linePc, pcOk x := by
  intro x hx
  obtain ⟨c, hc, rfl⟩ := List.mem_map.1 hx
  obtain ⟨f, hf⟩ := goodL_of (good_L hg).2.1 c hc
  exact line_ok hf
theorem filter_er : ∀ l : List Cm, ((l.map linePc).map erL).filter (fun e => !e.isEmpty) = l.map erC
  | [] => rfl
  | c :: l => by
    rw [List.map_cons, List.map_cons, List.filter_cons, filter_er l, line_er]
    rfl
/-- The script of good commands is read as they are. -/
theorem parse_text {l : List Cm} (hg : goodC l = true) (hv : ∀ c ∈ l, ∀ s ∈ c.path, s.v.length = 6) (hs : (textC l).length ≤ 1048576) : ∃ l', parseC (textC l) = (l', 0, 0) ∧ l'.map strip = l.map strip := by
  have h := parse_lines (L := l.map linePc) (z := []) (l := l) (lines_ok hg) trivial (by
    rw [List.map_append, List.filter_append, filter_er]
    simp [erL]) hg hv (by rw [← text_lines]; simpa [render] using hs)
  rw [← text_lines] at h
  simpa [render] using h
/-- So it is with more lines that are empty, and blanks and commas at ends. -/
theorem parse_repl {l : List Cm} (m : Nat) (hg : goodC l = true) (hv : ∀ c ∈ l, ∀ s ∈ c.path, s.v.length = 6) (hs : (textC l).length + 4 * m + 2 ≤ 1048576) : ∃ l', parseC ([10, 10] ++ replS m (textC l)) = (l', 0, 0) ∧ l'.map strip = l.map strip := by
  obtain ⟨M, h1, h2, h3, h4⟩ := repl_lines (l.map linePc) m (lines_ok hg)
  have h := parse_lines (L := [] :: [] :: M) (z := []) (l := l) (fun x hx => by
    rcases List.mem_cons.1 hx with rfl | hx
    · trivial
    · rcases List.mem_cons.1 hx with rfl | hx
      · trivial
      · exact h2 x hx) trivial (by
    rw [List.map_append, List.filter_append, List.map_cons, List.map_cons, List.filter_cons, List.filter_cons, h3, filter_er]
    simp [erL]) hg hv (by
    rw [← text_lines] at h4
    rw [textLn_cons, textLn_cons]
    simp only [render, List.flatMap_nil, List.nil_append, List.append_nil, List.length_cons]
    omega)
  rw [textLn_cons, textLn_cons] at h
  rw [text_lines, h1]
  simpa [render] using h
/-- And without the last end of a line. -/
theorem parse_last {l : List Cm} (hg : goodC l = true) (hv : ∀ c ∈ l, ∀ s ∈ c.path, s.v.length = 6) (hs : (textC l).length ≤ 1048576) : textC l ≠ [] ∧ ∃ l', parseC ((textC l).take ((textC l).length - 1)) = (l', 0, 0) ∧ l'.map strip = l.map strip := by
  have hne := (good_L hg).1
  have hok := lines_ok hg
  rcases List.eq_nil_or_concat l with rfl | ⟨a, c, hl⟩
  · exact absurd rfl hne
  rw [List.concat_eq_append] at hl
  have e : textC l = textLn (a.map linePc) ++ render (linePc c) ++ [10] := by
    rw [text_lines, hl, List.map_append, textLn_app]
    simp [textLn]
  refine ⟨by rw [e]; simp, ?_⟩
  have e2 : (textC l).take ((textC l).length - 1) = textLn (a.map linePc) ++ render (linePc c) := by
    rw [e, List.length_append, List.length_singleton, Nat.add_sub_cancel, List.take_left']
    rfl
  rw [e2]
  refine parse_lines (L := a.map linePc) (z := linePc c) (l := l) (fun x hx => hok x (by rw [hl]; simp at hx ⊢; exact .inl hx)) (hok _ (by rw [hl]; simp)) ?_ hg hv ?_
  · rw [hl, ← filter_er]
    simp
  · rw [e] at hs
    simp only [List.length_append, List.length_singleton] at hs ⊢
    omega
end Go.Proofs.YtefajplbgmikdaaDoor
