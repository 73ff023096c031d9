/-
  What is read out of a text of letters and numbers, letter by letter. No model in this text.
-/
import Derived.Test.YtefajplbgmikdaaDoorTextSpec
namespace Go.Proofs.YtefajplbgmikdaaDoor
open Go.Lib

/-- A letter with its numbers. -/
structure It where
  c : UInt8
  r : Rl
  ns : List Int
def itE (x : It) : Rl × Bool × List Int := (x.r, smallC x.c.toNat, x.ns)
def partE (p : Part) : Rl × Bool × List Int := (p.r, p.small, p.nums.map Tok.n)
def er (t : Tok) : Int × List UInt8 × Int := (t.kind, t.s, t.n)
def numE (n : Int) : Int × List UInt8 × Int := (2, [], n)
/-- The tokens of letters with their numbers, but for their places; mg: letters without numbers stand in one word with the next one. -/
def shapeI (mg : Bool) : List It → List UInt8 → List (Int × List UInt8 × Int)
  | [], pre => if pre = [] then [] else [(1, pre, 0)]
  | x :: r, pre => if mg = true ∧ x.ns = [] then shapeI mg r (pre ++ [x.c]) else (1, pre ++ [x.c], 0) :: (x.ns.map numE ++ shapeI mg r [])
def okIt (x : It) : Prop := ruleOf x.c.toNat = some x.r ∧ x.r.count = x.ns.length
def okSeq : Nat → List Rl → Prop
  | _, [] => True
  | k, r :: rs => (k = 0 → r.kind = 1) ∧ ¬ (r.kind = 6 ∧ k = 6) ∧ 0 < r.kind ∧ okSeq r.kind rs

theorem take_app {en : Int} : ∀ (a r : List Tok), (∀ t ∈ a, t.kind = 2) → takeNums en a.length (a ++ r) = .ok (a, r)
  | [], r, _ => by simp [takeNums]
  | t :: a, r, h => by
    rw [List.length_cons, List.cons_append, takeNums, if_pos (h t (by simp)), take_app a r (fun x hx => h x (by simp [hx]))]
theorem again_stop {en : Int} {x : Rl} {sm : Bool} {f : Nat} {l : List Tok} {ps : List Part} (h : numS l = false) : againS en x sm f l ps = .ok (l, ps) := by
  cases f with
  | zero => rfl
  | succ f => rw [againS, if_neg (by simp [h])]
theorem last_snoc (ps : List Part) (p : Part) : lastKind (ps ++ [p]) = p.r.kind := by simp [lastKind]
theorem letter_item {en : Int} {c : Nat} {x : Rl} {pl : Int} {more : Bool} {a rest : List Tok} {ps : List Part} (hr : ruleOf c = some x) (ha : a.length = x.count) (hk : ∀ t ∈ a, t.kind = 2) (hn : x.count = 0 ∨ numS rest = false)
    (h0 : ps = [] → x.kind = 1) (h6 : ¬ (x.kind = 6 ∧ lastKind ps = 6)) (hm : ¬ (more = true ∧ 0 < x.count)) (hc1 : x.kind = 1 → x.count ≠ 0) : letterS en c pl more (a ++ rest) ps = .ok (rest, ps ++ [⟨x, smallC c, pl, a⟩]) := by
  unfold letterS
  rw [hr]
  simp only
  rw [if_neg (fun h => h.elim (fun h => h.2 (h0 h.1)) h6), if_neg hm]
  unfold onceS
  rw [← ha, take_app a rest hk]
  simp only
  rcases hn with hn | hn
  · have hz : ∀ f l ps, againS en (if x.kind = 1 then ruleL else x) (smallC c) f l ps = .ok (l, ps) := by
      intro f l ps
      cases f with
      | zero => rfl
      | succ f =>
        rw [againS, if_neg]
        rw [if_neg (fun h => hc1 h hn)]
        omega
    exact hz _ _ _
  · exact again_stop hn
theorem num_shape {mg : Bool} : ∀ {xs : List It} {pre : List UInt8} {ts : List Tok}, ts.map er = shapeI mg xs pre → numS ts = false
  | [], pre, ts, h => by
    unfold shapeI at h
    split at h
    · cases ts with
      | nil => rfl
      | cons t ts => simp at h
    · cases ts with
      | nil => rfl
      | cons t ts =>
        simp only [List.map_cons, List.cons.injEq, er, Prod.mk.injEq] at h
        simp [numS, h.1.1]
  | x :: xs, pre, ts, h => by
    rw [shapeI] at h
    split at h
    · exact num_shape h
    · cases ts with
      | nil => rfl
      | cons t ts =>
        simp only [List.map_cons, List.cons.injEq, er, Prod.mk.injEq] at h
        simp [numS, h.1.1]
/-- A word of letters, of which the last alone may have numbers. -/
theorem word_items {en : Int} : ∀ (zs : List It) (x : It) (pl : Int) (a rest : List Tok) (ps : List Part), (∀ z ∈ zs, okIt z ∧ z.ns = []) → okIt x → a.map Tok.n = x.ns → (∀ t ∈ a, t.kind = 2) → (x.ns = [] ∨ numS rest = false) →
    okSeq (lastKind ps) ((zs ++ [x]).map (·.r)) → (∀ y ∈ zs ++ [x], y.r.kind = 1 → y.r.count ≠ 0) → (∀ p ∈ ps, 0 < p.r.kind) →
    ∃ ps', wordS en (zs.map (·.c) ++ [x.c]) pl (a ++ rest) ps = .ok (rest, ps ++ ps') ∧ ps'.map partE = (zs ++ [x]).map itE
  | [], x, pl, a, rest, ps, _, hx, ha, hk, hn, hs, hc1, hpos => by
    have hl : a.length = x.r.count := by rw [hx.2, ← ha]; simp
    have hs' : (lastKind ps = 0 → x.r.kind = 1) ∧ ¬ (x.r.kind = 6 ∧ lastKind ps = 6) ∧ 0 < x.r.kind ∧ True := hs
    refine ⟨[⟨x.r, smallC x.c.toNat, pl, a⟩], ?_, by simp [partE, itE, ha]⟩
    simp only [List.map_nil, List.nil_append, wordS, List.isEmpty_nil, Bool.not_true]
    rw [letter_item hx.1 hl hk (hn.imp (fun h => by rw [hx.2, h]; rfl) id) (fun h => hs'.1 (by rw [h]; rfl)) hs'.2.1 (by simp) (hc1 x (by simp))]
    
  | z :: zs, x, pl, a, rest, ps, hz, hx, ha, hk, hn, hs, hc1, hpos => by
    have hz0 := hz z (by simp)
    have hs' : (lastKind ps = 0 → z.r.kind = 1) ∧ ¬ (z.r.kind = 6 ∧ lastKind ps = 6) ∧ 0 < z.r.kind ∧ okSeq z.r.kind ((zs ++ [x]).map (·.r)) := hs
    have hcz : z.r.count = 0 := by rw [hz0.1.2, hz0.2]; rfl
    obtain ⟨ps', h1, h2⟩ := word_items zs x (pl + 1) a rest (ps ++ [⟨z.r, smallC z.c.toNat, pl, []⟩]) (fun y hy => hz y (by simp [hy])) hx ha hk hn (by rw [last_snoc]; exact hs'.2.2.2) (fun y hy => hc1 y (List.mem_cons_of_mem _ hy)) (fun p hp => by
      rcases List.mem_append.1 hp with hp | hp
      · exact hpos p hp
      · rw [List.mem_singleton.1 hp]; exact hs'.2.2.1)
    refine ⟨⟨z.r, smallC z.c.toNat, pl, []⟩ :: ps', ?_, by simp [partE, itE, hz0.2] at h2 ⊢; exact h2⟩
    simp only [List.map_cons, List.cons_append, wordS]
    rw [show a ++ rest = [] ++ (a ++ rest) from rfl, letter_item hz0.1.1 (by simp [hcz]) (by simp) (.inl hcz) (fun h => hs'.1 (by rw [h]; rfl)) hs'.2.1 (by rw [hcz]; simp) (hc1 z (by simp))]
    simp only
    rw [h1]
    simp
theorem split_map {α β : Type} {f : α → β} : ∀ {l : List α} {a b : List β}, l.map f = a ++ b → ∃ x y, l = x ++ y ∧ x.map f = a ∧ y.map f = b := by
  intro l a b h
  exact List.map_eq_append_iff.1 h
theorem num_toks : ∀ {a : List Tok} {ns : List Int}, a.map er = ns.map numE → a.map Tok.n = ns ∧ ∀ t ∈ a, t.kind = 2
  | [], [], _ => ⟨rfl, by simp⟩
  | [], _ :: _, h => by simp at h
  | _ :: _, [], h => by simp at h
  | t :: a, n :: ns, h => by
    simp only [List.map_cons, List.cons.injEq, er, numE, Prod.mk.injEq] at h
    have := num_toks h.2
    refine ⟨by simp [h.1.2.2, this.1], fun x hx => ?_⟩
    rcases List.mem_cons.1 hx with rfl | hx
    · exact h.1.1
    · exact this.2 x hx
theorem okSeq_app : ∀ {a b : List Rl} {k : Nat}, okSeq k (a ++ b) → okSeq k a ∧ okSeq ((a.getLast?.map (·.kind)).getD k) b
  | [], b, k, h => ⟨trivial, h⟩
  | r :: a, b, k, h => by
    have h' : (k = 0 → r.kind = 1) ∧ ¬ (r.kind = 6 ∧ k = 6) ∧ 0 < r.kind ∧ okSeq r.kind (a ++ b) := h
    have := okSeq_app h'.2.2.2
    refine ⟨⟨h'.1, h'.2.1, h'.2.2.1, this.1⟩, ?_⟩
    have h2 := this.2
    cases a with
    | nil => simpa using h2
    | cons c a =>
      rw [List.getLast?_cons_cons]
      rw [List.getLast?_eq_some_getLast (by simp : (c :: a) ≠ [])] at h2 ⊢
      exact h2
theorem lastKind_map {ps' : List Part} {ys : List It} (ps : List Part) (h : ps'.map partE = ys.map itE) : lastKind (ps ++ ps') = ((ys.map (·.r)).getLast?.map (·.kind)).getD (lastKind ps) := by
  have h1 : ps'.map (·.r) = ys.map (·.r) := by
    have := congrArg (List.map Prod.fst) h
    simpa [partE, itE, Function.comp_def] using this
  rcases List.eq_nil_or_concat ps' with rfl | ⟨q, p, rfl⟩
  · have : ys = [] := by simpa using h1.symm
    subst this
    simp
  · rcases List.eq_nil_or_concat ys with rfl | ⟨y, z, rfl⟩
    · simp at h1
    · have h2 : p.r = z.r := by
        have := congrArg List.getLast? h1
        simpa using this
      simp only [List.concat_eq_append, ← List.append_assoc, last_snoc]
      simp [h2]
/-- All parts of such tokens. -/
theorem read_items {en : Int} {mg : Bool} : ∀ (xs zs : List It) (f : Nat) (ts : List Tok) (ps : List Part), ts.map er = shapeI mg xs (zs.map (·.c)) → ts.length ≤ f → (∀ z ∈ zs, okIt z ∧ z.ns = []) → (∀ x ∈ xs, okIt x) →
    okSeq (lastKind ps) ((zs ++ xs).map (·.r)) → (∀ y ∈ zs ++ xs, y.r.kind = 1 → y.r.count ≠ 0) → (∀ p ∈ ps, 0 < p.r.kind) →
    ∃ ps', readS en f ts ps = .ok (ps ++ ps') ∧ ps'.map partE = (zs ++ xs).map itE
  | [], zs, f, ts, ps, h, hf, hz, hx, hs, hc1, hpos => by
    unfold shapeI at h
    split at h
    · rename_i hz0
      have : zs = [] := by simpa using hz0
      subst this
      have : ts = [] := by simpa using h
      subst this
      refine ⟨[], ?_, rfl⟩
      cases f <;> simp [readS]
    · rename_i hz0
      cases ts with
      | nil => simp at h
      | cons t ts =>
        simp only [List.map_cons, List.cons.injEq, er, Prod.mk.injEq, List.map_eq_nil_iff] at h
        obtain ⟨⟨hk, hts, hn⟩, rfl⟩ := h
        rcases List.eq_nil_or_concat zs with rfl | ⟨ys, y, rfl⟩
        · exact absurd rfl hz0
        · simp only [List.concat_eq_append] at *
          have hy := hz y (by simp)
          obtain ⟨ps', h1, h2⟩ := word_items (en := en) ys y t.place [] [] ps (fun z hz' => hz z (by simp [hz'])) hy.1 (by rw [hy.2]; rfl) (by simp) (.inl hy.2) (by simpa using hs) (by simpa using hc1) hpos
          refine ⟨ps', ?_, by simpa using h2⟩
          obtain ⟨f, rfl⟩ : ∃ g, f = g + 1 := ⟨f - 1, by simp at hf; omega⟩
          rw [readS, if_neg (by simp [hk]), if_neg (by rw [hts]; simp), hts]
          simp only [List.map_append, List.map_cons, List.map_nil]
          rw [List.nil_append] at h1
          rw [h1]
          cases f <;> simp [readS]
  | x :: xs, zs, f, ts, ps, h, hf, hz, hx, hs, hc1, hpos => by
    rw [shapeI] at h
    split at h
    · rename_i hm
      have := read_items (en := en) xs (zs ++ [x]) f ts ps (by simpa using h) hf (fun z hz' => by
        rcases List.mem_append.1 hz' with hz' | hz'
        · exact hz z hz'
        · rw [List.mem_singleton.1 hz']; exact ⟨hx x (by simp), hm.2⟩) (fun y hy => hx y (by simp [hy])) (by simpa using hs) (by simpa using hc1) hpos
      simpa using this
    · cases ts with
      | nil => simp at h
      | cons t ts =>
        simp only [List.map_cons, List.cons.injEq] at h
        obtain ⟨ht, h⟩ := h
        simp only [er, Prod.mk.injEq] at ht
        obtain ⟨hk, hts, hn⟩ := ht
        obtain ⟨a, rest, rfl, ha, hrest⟩ := split_map h
        obtain ⟨ha1, ha2⟩ := num_toks ha
        have hxx := hx x (by simp)
        have hs2 := okSeq_app (a := (zs ++ [x]).map (·.r)) (b := xs.map (·.r)) (by simpa using hs)
        obtain ⟨ps', h1, h2⟩ := word_items (en := en) zs x t.place a rest ps hz hxx ha1 ha2 (.inr (num_shape (xs := xs) (pre := []) hrest)) hs2.1 (fun y hy => hc1 y (by rcases List.mem_append.1 hy with h | h; exact List.mem_append_left _ h; rw [List.mem_singleton.1 h]; simp)) hpos
        obtain ⟨f, rfl⟩ : ∃ g, f = g + 1 := ⟨f - 1, by simp at hf; omega⟩
        have hpos2 : ∀ p ∈ ps ++ ps', 0 < p.r.kind := by
          intro p hp
          rcases List.mem_append.1 hp with hp | hp
          · exact hpos p hp
          · have hmem : p.r ∈ (zs ++ [x]).map (·.r) := by
              have e1 : ps'.map (·.r) = (zs ++ [x]).map (·.r) := by
                have := congrArg (List.map Prod.fst) h2
                simpa [partE, itE, Function.comp_def] using this
              rw [← e1]
              exact List.mem_map.2 ⟨p, hp, rfl⟩
            have hall : ∀ (l : List Rl) (k : Nat), okSeq k l → ∀ r ∈ l, 0 < r.kind := by
              intro l
              induction l with
              | nil => intro k _ r hr; simp at hr
              | cons q l ih =>
                intro k hk r hr
                have hk' : (k = 0 → q.kind = 1) ∧ ¬ (q.kind = 6 ∧ k = 6) ∧ 0 < q.kind ∧ okSeq q.kind l := hk
                rcases List.mem_cons.1 hr with rfl | hr
                · exact hk'.2.2.1
                · exact ih _ hk'.2.2.2 r hr
            exact hall _ _ hs2.1 _ hmem
        obtain ⟨ps2, h3, h4⟩ := read_items xs [] f rest (ps ++ ps') hrest (by simp at hf; omega) (by simp) (fun y hy => hx y (by simp [hy])) (by
          rw [lastKind_map ps h2]
          simpa using hs2.2) (fun y hy => hc1 y (by simp only [List.nil_append] at hy; simp [hy])) hpos2
        refine ⟨ps' ++ ps2, ?_, by simp [h2, h4]⟩
        rw [readS, if_neg (by simp [hk]), if_neg (by rw [hts]; simp), hts, h1]
        simp only
        rw [h3, List.append_assoc]
end Go.Proofs.YtefajplbgmikdaaDoor
