/-
  What is parsed is good; the path of a path's text is it. No program in this text.
-/
import Derived.Test.YtefajplbgmikdaaDoorTextSegs
import Derived.Test.YtefajplbgmikdaaDoorPathM
namespace Go.Proofs.YtefajplbgmikdaaDoor
open Go.Lib

theorem okSeq_snoc : ∀ {l : List Rl} {k : Nat} {x : Rl}, okSeq k l → ((((l.getLast?.map (·.kind)).getD k) = 0 → x.kind = 1) ∧ ¬ (x.kind = 6 ∧ ((l.getLast?.map (·.kind)).getD k) = 6) ∧ 0 < x.kind) → okSeq k (l ++ [x])
  | [], k, x, _, h => ⟨by simpa using h.1, by simpa using h.2.1, h.2.2, trivial⟩
  | r :: l, k, x, hl, h => by
    have hl' : (k = 0 → r.kind = 1) ∧ ¬ (r.kind = 6 ∧ k = 6) ∧ 0 < r.kind ∧ okSeq r.kind l := hl
    refine ⟨hl'.1, hl'.2.1, hl'.2.2.1, okSeq_snoc hl'.2.2.2 ?_⟩
    cases l with
    | nil => simpa using h
    | cons c l =>
      rw [List.getLast?_cons_cons] at h
      rw [List.getLast?_eq_some_getLast (by simp : (c :: l) ≠ [])] at h ⊢
      exact h
def chk (ps : List Part) : Prop := okSeq 0 (ps.map (·.r))
theorem last_get (ps : List Part) : ((ps.map (·.r)).getLast?.map (·.kind)).getD 0 = lastKind ps := by
  unfold lastKind
  rw [List.getLast?_map]
  cases ps.getLast? <;> rfl
theorem chk_once {en : Int} {x : Rl} {sm : Bool} {pl : Int} {l l' : List Tok} {ps ps' : List Part} (h : onceS en x sm pl l ps = .ok (l', ps')) (hc : chk ps) (h0 : lastKind ps = 0 → x.kind = 1) (h6 : ¬ (x.kind = 6 ∧ lastKind ps = 6)) (hp : 0 < x.kind) : chk ps' ∧ lastKind ps' = x.kind := by
  unfold onceS at h
  split at h
  · simp only [Except.ok.injEq, Prod.mk.injEq] at h
    obtain ⟨_, rfl⟩ := h
    refine ⟨?_, last_snoc _ _⟩
    unfold chk
    rw [List.map_append]
    exact okSeq_snoc hc (by rw [last_get]; exact ⟨h0, h6, hp⟩)
  · cases h
theorem chk_again {en : Int} {x : Rl} {sm : Bool} (hp : 0 < x.kind) (hx : 0 < x.count → x.kind ≠ 6) : ∀ {f : Nat} {l l' : List Tok} {ps ps' : List Part}, againS en x sm f l ps = .ok (l', ps') → chk ps → lastKind ps ≠ 0 → chk ps' ∧ lastKind ps' ≠ 0
  | 0, l, l', ps, ps', h, hc, hk => by
    simp only [againS, Except.ok.injEq, Prod.mk.injEq] at h
    obtain ⟨_, rfl⟩ := h
    exact ⟨hc, hk⟩
  | f + 1, l, l', ps, ps', h, hc, hk => by
    rw [againS] at h
    split at h
    · rename_i hcc
      split at h
      · rename_i l2 ps2 he
        have h3 := chk_once he hc (fun e => absurd e hk) (fun e => hx hcc.1 e.1) hp
        exact chk_again hp hx h h3.1 (by omega)
      · cases h
    · simp only [Except.ok.injEq, Prod.mk.injEq] at h
      obtain ⟨_, rfl⟩ := h
      exact ⟨hc, hk⟩
theorem rules_pos : ∀ x ∈ rulesL, 0 < x.kind ∧ (0 < x.count → x.kind ≠ 6) := by decide
theorem chk_zero {ps : List Part} (h : chk ps) : lastKind ps = 0 → ps = [] := by
  intro h0
  rcases List.eq_nil_or_concat ps with rfl | ⟨q, p, rfl⟩
  · rfl
  · exfalso
    rw [List.concat_eq_append] at h h0
    rw [last_snoc] at h0
    unfold chk at h
    rw [List.map_append] at h
    have h' : 0 < p.r.kind := (okSeq_app h).2.2.2.1
    omega
theorem chk_letter {en : Int} {c : Nat} {pl : Int} {more : Bool} {l l' : List Tok} {ps ps' : List Part} (h : letterS en c pl more l ps = .ok (l', ps')) (hc : chk ps) : chk ps' := by
  unfold letterS at h
  split at h
  · cases h
  · rename_i x hx
    have hm : x ∈ rulesL := List.mem_of_find?_eq_some hx
    split at h
    · cases h
    · rename_i hcond
      split at h
      · cases h
      · split at h
        · rename_i l2 ps2 he
          have h3 := chk_once he hc (fun e => Classical.byContradiction fun e2 => hcond (.inl ⟨chk_zero hc e, e2⟩)) (fun e => hcond (.inr e)) (rules_pos x hm).1
          refine (chk_again ?_ ?_ h h3.1 (by have := (rules_pos x hm).1; omega)).1
          · split
            · decide
            · exact (rules_pos x hm).1
          · split
            · decide
            · exact (rules_pos x hm).2
        · cases h
theorem chk_word {en : Int} : ∀ {s : List UInt8} {pl : Int} {l l' : List Tok} {ps ps' : List Part}, wordS en s pl l ps = .ok (l', ps') → chk ps → chk ps'
  | [], pl, l, l', ps, ps', h, hc => by
    simp only [wordS, Except.ok.injEq, Prod.mk.injEq] at h
    obtain ⟨_, rfl⟩ := h
    exact hc
  | c :: cs, pl, l, l', ps, ps', h, hc => by
    rw [wordS] at h
    split at h
    · rename_i l2 ps2 he
      exact chk_word h (chk_letter he hc)
    · cases h
theorem letter_more {en : Int} {c : Nat} {pl : Int} {more : Bool} {l l' : List Tok} {ps ps' : List Part} (h : letterS en c pl more l ps = .ok (l', ps')) : ps.length < ps'.length := by
  have hag : ∀ {x : Rl} {sm : Bool} {f : Nat} {l l' : List Tok} {ps ps' : List Part}, againS en x sm f l ps = .ok (l', ps') → ps.length ≤ ps'.length := by
    intro x sm f
    induction f with
    | zero =>
      intro l l' ps ps' h
      simp only [againS, Except.ok.injEq, Prod.mk.injEq] at h
      obtain ⟨_, rfl⟩ := h
      exact Nat.le_refl _
    | succ f ih =>
      intro l l' ps ps' h
      rw [againS] at h
      split at h
      · split at h
        · rename_i l2 ps2 he
          have := (once_wt he).2.2
          have := ih h
          omega
        · cases h
      · simp only [Except.ok.injEq, Prod.mk.injEq] at h
        obtain ⟨_, rfl⟩ := h
        exact Nat.le_refl _
  unfold letterS at h
  split at h
  · cases h
  · split at h
    · cases h
    · split at h
      · cases h
      · split at h
        · rename_i l2 ps2 he
          have := (once_wt he).2.2
          have := hag h
          omega
        · cases h
theorem word_ne {en : Int} {c : UInt8} {cs : List UInt8} {pl : Int} {l l' : List Tok} {ps ps' : List Part} (h : wordS en (c :: cs) pl l ps = .ok (l', ps')) (_ : chk ps) : ps' ≠ [] := by
  have hone : ∀ {s : List UInt8} {pl : Int} {l l' : List Tok} {ps ps' : List Part}, wordS en s pl l ps = .ok (l', ps') → ps.length ≤ ps'.length := by
    intro s
    induction s with
    | nil =>
      intro pl l l' ps ps' h
      simp only [wordS, Except.ok.injEq, Prod.mk.injEq] at h
      obtain ⟨_, rfl⟩ := h
      exact Nat.le_refl _
    | cons c cs ih =>
      intro pl l l' ps ps' h
      rw [wordS] at h
      split at h
      · rename_i l2 ps2 he
        refine Nat.le_trans ?_ (ih h)
        exact Nat.le_of_lt (letter_more he)
      · cases h
  rw [wordS] at h
  split at h
  · rename_i l2 ps2 he
    have h1 := hone h
    have h2 := letter_more he
    intro e
    subst e
    simp at h1
    subst h1
    simp at h2
  · cases h
theorem chk_read {en : Int} : ∀ {f : Nat} {l : List Tok} {ps ps' : List Part}, readS en f l ps = .ok ps' → chk ps → chk ps'
  | f, [], ps, ps', h, hc => by
    have : readS en f [] ps = .ok ps := by cases f <;> rfl
    rw [this] at h
    simp only [Except.ok.injEq] at h
    exact h ▸ hc
  | 0, _ :: _, ps, ps', h, hc => by
    simp only [readS, Except.ok.injEq] at h
    exact h ▸ hc
  | f + 1, t :: l, ps, ps', h, hc => by
    rw [readS] at h
    split at h
    · cases h
    · split at h
      · cases h
      · split at h
        · rename_i l2 ps2 he
          exact chk_read h (chk_word he hc)
        · cases h
theorem read_ne {en : Int} {l : List Tok} {ps : List Part} (h : readAll en l = .ok ps) : ps ≠ [] := by
  unfold readAll at h
  split at h
  · cases h
  · rename_i hl
    cases l with
    | nil => exact absurd rfl hl
    | cons t l =>
      rw [List.length_cons, readS] at h
      split at h
      · cases h
      · split at h
        · cases h
        · rename_i hs
          split at h
          · rename_i l2 ps2 he
            cases hts : t.s with
            | nil => exact absurd hts hs
            | cons c cs =>
              rw [hts] at he
              have h1 := word_ne he (ps := []) trivial
              have hmono : ∀ {f : Nat} {l : List Tok} {ps ps' : List Part}, readS en f l ps = .ok ps' → ps ≠ [] → chk ps → ps' ≠ [] := by
                intro f
                induction f with
                | zero =>
                  intro l ps ps' h hne _
                  cases l <;> (simp only [readS, Except.ok.injEq] at h; exact h ▸ hne)
                | succ f ih =>
                  intro l ps ps' h hne hc
                  cases l with
                  | nil => simp only [readS, Except.ok.injEq] at h; exact h ▸ hne
                  | cons t l =>
                    rw [readS] at h
                    split at h
                    · cases h
                    · split at h
                      · cases h
                      · rename_i hs
                        split at h
                        · rename_i l2 ps2 he
                          cases hts : t.s with
                          | nil => exact absurd hts hs
                          | cons c cs =>
                            rw [hts] at he
                            exact ih h (word_ne he hc) (chk_word he hc)
                        · cases h
              exact hmono h h1 (chk_word he (ps := []) trivial)
          · cases h
theorem absL_ok {p : Pen} {x : Part} : ∀ {ts : List Tok} {i : Nat} {vs : List Int}, absL p x ts i = .ok vs → vs.length = ts.length ∧ ∀ v ∈ vs, Co v
  | [], i, vs, h => by
    simp only [absL, Except.ok.injEq] at h
    subst h
    simp
  | t :: ts, i, vs, h => by
    rw [absL] at h
    split at h
    · rename_i hin
      split at h
      · rename_i l he
        simp only [Except.ok.injEq] at h
        subst h
        have := absL_ok he
        refine ⟨by simp [this.1], fun v hv => ?_⟩
        rcases List.mem_cons.1 hv with rfl | hv
        · exact inR_iff.1 hin
        · exact this.2 v hv
      · cases h
    · cases h
theorem co_zero : Co 0 := by unfold Co; omega
theorem co_getD {l : List Int} (h : ∀ v ∈ l, Co v) (i : Nat) : Co (l.getD i 0) := by
  rw [List.getD_eq_getElem?_getD]
  cases hi : l[i]? with
  | none => exact co_zero
  | some v => exact h v (List.mem_of_getElem? hi)
theorem goodN_fill : ∀ (v : List Int) (k i c : Nat), (∀ x ∈ v, Co x) → i + v.length ≤ c → goodN c (v ++ List.replicate k 0) i = true
  | [], 0, i, c, _, _ => rfl
  | [], k + 1, i, c, h, hi => by
    simp only [List.nil_append, List.replicate_succ, goodN, Bool.and_eq_true, Bool.or_eq_true]
    refine ⟨⟨by decide, .inl (by decide)⟩, ?_⟩
    have : ∀ (k i : Nat), goodN c (List.replicate k 0) i = true := by
      intro k
      induction k with
      | zero => intro i; rfl
      | succ k ih =>
        intro i
        have h0 : inR 0 = true := by decide
        rw [List.replicate_succ, goodN, ih, h0]
        simp
    exact this k (i + 1)
  | u :: v, k, i, c, h, hi => by
    simp only [List.length_cons] at hi
    simp only [List.cons_append, goodN, Bool.and_eq_true, Bool.or_eq_true, decide_eq_true_eq]
    exact ⟨⟨inR_iff.2 (h u (by simp)), .inr (by omega)⟩, goodN_fill v k (i + 1) c (fun x hx => h x (by simp [hx])) (by omega)⟩
theorem move_ok {p : Pen} {s : Sg} {n : Nat} (hp : PenOk p) (hs : SgOk s) : PenOk (moveS p s n) := by
  have h1 := co_getD hs.2
  unfold moveS
  refine ⟨?_, ?_, ?_, ?_, hs⟩
  · dsimp only; split; exact hp.fx; exact h1 _
  · dsimp only; split; exact hp.fy; exact h1 _
  · dsimp only; (repeat' split) <;> first | exact hp.fx | exact h1 _
  · dsimp only; (repeat' split) <;> first | exact hp.fy | exact h1 _
/-- What a part gives. -/
theorem seg_ok {q : Tok → Prop} {p p' : Pen} {x : Part} {s : Sg} (hp : PenOk p) (hx : PartOk q x) (h : segS p x = .ok (s, p')) : PenOk p' ∧ SgOk s ∧ goodOne s = true ∧ s.kind = x.r.kind := by
  unfold segS at h
  cases h1 : preS p x with
  | error e => rw [h1] at h; cases h
  | ok pr =>
    rw [h1] at h
    cases h2 : weightS x with
    | error e => rw [h2] at h; cases h
    | ok wn =>
      obtain ⟨w, ns⟩ := wn
      rw [h2] at h
      cases h3 : absL p x ns 0 with
      | error e => simp only [h3] at h; cases h
      | ok vs =>
        simp only [h3, Except.ok.injEq, Prod.mk.injEq] at h
        obtain ⟨h4, h5⟩ := h
        have hvs := absL_ok h3
        have hpr : (∀ v ∈ pr, Co v) ∧ pr.length = (if x.r.name = 83 ∨ x.r.name = 84 then 2 else 0) := by
          unfold preS at h1
          split at h1
          · rename_i hn
            split at h1
            · rename_i hi
              simp only [Except.ok.injEq] at h1
              subst h1
              refine ⟨fun v hv => ?_, by rw [if_pos hn]; rfl⟩
              simp only [List.mem_cons, List.not_mem_nil, or_false] at hv
              rcases hv with rfl | rfl
              · exact inR_iff.1 hi.1
              · exact inR_iff.1 hi.2
            · cases h1
          · rename_i hn
            simp only [Except.ok.injEq] at h1
            subst h1
            exact ⟨by simp, by rw [if_neg hn]; rfl⟩
        have hw : ns.length = (if x.r.kind = 5 then x.r.count - 1 else x.r.count) ∧ goodW ⟨x.r.kind, [], w⟩ = true := by
          unfold weightS at h2
          have hl := hx.2.1
          split at h2
          · rename_i hk
            rw [if_pos hk]
            cases hn : x.nums with
            | nil => rw [hn] at h2; cases h2
            | cons t r =>
              rw [hn] at h2 hl
              simp only at h2
              split at h2
              · cases h2
              · rename_i ht
                simp only [Except.ok.injEq, Prod.mk.injEq] at h2
                obtain ⟨rfl, rfl⟩ := h2
                simp only [List.length_cons] at hl
                refine ⟨by omega, ?_⟩
                unfold goodW
                rw [if_pos (by simp [hk])]
                simp; omega
          · rename_i hk
            rw [if_neg hk]
            simp only [Except.ok.injEq, Prod.mk.injEq] at h2
            obtain ⟨rfl, rfl⟩ := h2
            refine ⟨hl, ?_⟩
            unfold goodW
            rw [if_neg (by simp only; omega)]
            rfl
        -- the list that is kept
        have hall : ∀ v ∈ pr ++ vs, Co v := fun v hv => (List.mem_append.1 hv).elim (hpr.1 v) (hvs.2 v)
        have hlc : ∀ v ∈ lineV p x (pr ++ vs), Co v := by
          intro v hv
          unfold lineV at hv
          split at hv
          · simp only [List.mem_cons, List.not_mem_nil, or_false] at hv
            rcases hv with rfl | rfl
            · exact co_getD hall 0
            · exact hp.y
          · split at hv
            · simp only [List.mem_cons, List.not_mem_nil, or_false] at hv
              rcases hv with rfl | rfl
              · exact hp.x
              · exact co_getD hall 0
            · exact hall v hv
        have hlen : (lineV p x (pr ++ vs)).length = countK x.r.kind ∧ countK x.r.kind ≤ 6 ∧ (1 : Int) ≤ x.r.kind ∧ (x.r.kind : Int) ≤ 6 := by
          have hl0 : (pr ++ vs).length = (if x.r.name = 83 ∨ x.r.name = 84 then 2 else 0) + (if x.r.kind = 5 then x.r.count - 1 else x.r.count) := by
            rw [List.length_append, hpr.2, hvs.1, hw.1]
          unfold lineV
          have hr := hx.1
          have hcase : ∀ r ∈ rulesL, ((if r.name = 72 then 2 else if r.name = 86 then 2 else (if r.name = 83 ∨ r.name = 84 then 2 else 0) + (if r.kind = 5 then r.count - 1 else r.count)) = countK r.kind ∧ countK r.kind ≤ 6 ∧ (1 : Int) ≤ r.kind ∧ (r.kind : Int) ≤ 6) := by decide
          have := hcase _ hr
          refine ⟨?_, this.2⟩
          rw [← this.1]
          split
          · rfl
          · split
            · rfl
            · exact hl0
        have hsg : SgOk s := by
          subst h4
          refine ⟨?_, fun v hv => ?_⟩
          · simp only [List.length_append, List.length_replicate]
            omega
          · simp only at hv
            rcases List.mem_append.1 hv with hv | hv
            · exact hlc v hv
            · rw [(List.mem_replicate.1 hv).2]; exact co_zero
        refine ⟨by rw [← h5, h4]; exact move_ok hp hsg, hsg, ?_, by subst h4; rfl⟩
        subst h4
        unfold goodOne
        simp only [Bool.and_eq_true, decide_eq_true_eq]
        refine ⟨⟨⟨hlen.2.2.1, hlen.2.2.2⟩, goodN_fill _ _ 0 _ hlc (by omega)⟩, hw.2⟩
theorem segs_ok {q : Tok → Prop} : ∀ {ps : List Part} {i : Nat} {p : Pen} {l : List Sg}, segsS ps i p = .ok l → PenOk p → (∀ x ∈ ps, PartOk q x) → (∀ s ∈ l, SgOk s ∧ goodOne s = true) ∧ l.map (·.kind) = ps.map (fun x => (x.r.kind : Int)) ∧ (l ≠ [] → i + l.length ≤ 4096)
  | [], i, p, l, h, _, _ => by
    simp only [segsS, Except.ok.injEq] at h
    subst h
    simp
  | x :: ps, i, p, l, h, hp, hx => by
    rw [segsS] at h
    split at h
    · cases h
    · rename_i hi
      split at h
      · cases h
      · rename_i s p' he
        have h1 := seg_ok hp (hx x (by simp)) he
        split at h
        · rename_i l' he'
          simp only [Except.ok.injEq] at h
          subst h
          have h2 := segs_ok he' h1.1 (fun y hy => hx y (by simp [hy]))
          refine ⟨fun y hy => ?_, by simp [h1.2.2.2, h2.2.1], fun _ => ?_⟩
          · rcases List.mem_cons.1 hy with rfl | hy
            · exact ⟨h1.2.1, h1.2.2.1⟩
            · exact h2.1 y hy
          · simp only [List.length_cons]
            by_cases hl : l' = []
            · subst hl; simp; omega
            · have := h2.2.2 hl; omega
        · cases h
theorem pen0_ok : PenOk pen0 := ⟨co_zero, co_zero, co_zero, co_zero, by decide, fun v hv => by
  have : v = 0 := by simpa [pen0] using hv
  subst this
  exact co_zero⟩
theorem two_of : ∀ {ps : List Part} {l : List Sg} {k : Nat}, okSeq k (ps.map (·.r)) → l.map (·.kind) = ps.map (fun x => (x.r.kind : Int)) → noTwo l = true
  | [], [], _, _, _ => rfl
  | [], _ :: _, _, _, h => by simp at h
  | _ :: _, [], _, _, _ => rfl
  | [x], [s], _, _, _ => rfl
  | [x], s :: t :: l, _, _, h => by simp at h
  | x :: y :: ps, [s], _, _, h => by simp at h
  | x :: y :: ps, s :: t :: l, k, hc, h => by
    have hc' : (k = 0 → x.r.kind = 1) ∧ ¬ (x.r.kind = 6 ∧ k = 6) ∧ 0 < x.r.kind ∧ okSeq x.r.kind ((y :: ps).map (·.r)) := hc
    have hc2 : (x.r.kind = 0 → y.r.kind = 1) ∧ ¬ (y.r.kind = 6 ∧ x.r.kind = 6) ∧ 0 < y.r.kind ∧ okSeq y.r.kind (ps.map (·.r)) := hc'.2.2.2
    simp only [List.map_cons, List.cons.injEq] at h
    obtain ⟨e1, e2, e3⟩ := h
    rw [noTwo]
    simp only [Bool.and_eq_true, Bool.not_eq_true', Bool.and_eq_false_iff, decide_eq_false_iff_not]
    refine ⟨?_, two_of hc'.2.2.2 (by simp [e2, e3])⟩
    by_cases h6 : s.kind = 6
    · right; intro e; exact hc2.2.1 ⟨by omega, by omega⟩
    · left; exact h6
/-- What is parsed is good. -/
theorem parse_good {ts : List Tok} {en : Int} {l : List Sg} (h : parseS ts en = .ok l) : goodS l = true ∧ ∀ s ∈ l, SgOk s := by
  unfold parseS at h
  cases hr : readAll en ts with
  | error a => rw [hr] at h; cases h
  | ok ps =>
    rw [hr] at h
    simp only at h
    have hne := read_ne hr
    have hch : chk ps := by
      unfold readAll at hr
      split at hr
      · cases hr
      · exact chk_read hr trivial
    have hpo : ∀ x ∈ ps, PartOk (fun _ => True) x := by
      unfold readAll at hr
      split at hr
      · cases hr
      · exact read_ok hr (fun _ _ => trivial) (by simp)
    have h2 := segs_ok h pen0_ok hpo
    have hl : l ≠ [] := by
      rintro rfl
      have := congrArg List.length h2.2.1
      simp at this
      exact hne (List.eq_nil_of_length_eq_zero this.symm)
    refine ⟨?_, fun s hs => (h2.1 s hs).1⟩
    unfold goodS
    simp only [Bool.and_eq_true, decide_eq_true_eq, List.all_eq_true]
    refine ⟨⟨⟨?_, by have := h2.2.2 hl; omega⟩, fun s hs => (h2.1 s hs).2⟩, two_of hch h2.2.1⟩
    cases l with
    | nil => exact absurd rfl hl
    | cons s l =>
      cases ps with
      | nil => exact absurd rfl hne
      | cons x ps =>
        have hk : x.r.kind = 1 := hch.1 rfl
        have := h2.2.1
        simp only [List.map_cons, List.cons.injEq] at this
        simp only [headOk, decide_eq_true_eq]
        omega
end Go.Proofs.YtefajplbgmikdaaDoor
