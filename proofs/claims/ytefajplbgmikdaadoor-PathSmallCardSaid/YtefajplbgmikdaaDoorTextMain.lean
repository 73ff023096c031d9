/-
  The text of a good path is read as that path. No program in this text.
-/
import Derived.Test.YtefajplbgmikdaaDoorTextGood
namespace Go.Proofs.YtefajplbgmikdaaDoor
open Go.Lib

def pcsOf (s : Sg) : List Pc := .w [letterB s.kind] :: (numsOf s).map .n
def pcsS (l : List Sg) : List Pc := l.flatMap pcsOf
def sepP : List Pc → List Pc
  | [] => []
  | [p] => [p]
  | p :: q :: r => p :: .b 32 :: sepP (q :: r)
theorem render_sep : ∀ ps : List Pc, render (sepP ps) = Lib.join (ps.map pcB) [32]
  | [] => rfl
  | [p] => by simp [sepP, render, Lib.join, List.intercalate]
  | p :: q :: r => by
    have ih := render_sep (q :: r)
    have e : ∀ p ps, render (p :: ps) = pcB p ++ render ps := fun _ _ => by simp [render]
    have e32 : pcB (.b 32) = [32] := rfl
    rw [sepP, e, e, ih, e32]
    simp [Lib.join, List.intercalate]
theorem words_pcs (l : List Sg) : wordsS l = (pcsS l).map pcB := by
  unfold wordsS pcsS
  rw [List.map_flatMap]
  congr 1
  funext s
  simp [wordsOf, pcsOf, pcB, Function.comp_def]
theorem text_render (l : List Sg) : textS l = render (sepP (pcsS l)) := by rw [render_sep, textS, words_pcs]
def pcE : Pc → List (Int × List UInt8 × Int)
  | .w l => [(1, l, 0)]
  | .n n => [numE n]
  | .b _ => []
theorem toks_er : ∀ (ps : List Pc) (i : Nat), (toksP ps i).map er = ps.flatMap pcE
  | [], _ => rfl
  | p :: r, i => by
    rw [toksP, List.map_append, toks_er r, List.flatMap_cons]
    cases p <;> rfl
theorem sep_er : ∀ ps : List Pc, (sepP ps).flatMap pcE = ps.flatMap pcE
  | [] => rfl
  | [p] => rfl
  | p :: q :: r => by
    have ih := sep_er (q :: r)
    simp only [sepP, List.flatMap_cons, pcE, List.nil_append] at ih ⊢
    rw [ih]
theorem nums_false (p : Pen) (s : Sg) : numsP false p s = numsOf s := by unfold numsP numsOf; rw [relN_false]
theorem shape_pcs : ∀ (l : List Sg) (p : Pen), shapeI false (itsP false l p) [] = (pcsS l).flatMap pcE
  | [], _ => rfl
  | s :: l, p => by
    have h : ∀ ns : List Int, (ns.map Pc.n).flatMap pcE = ns.map numE := by
      intro ns
      induction ns with
      | nil => rfl
      | cons n ns ih => rw [List.map_cons, List.flatMap_cons, ih]; rfl
    rw [itsP, shapeI, if_neg (by simp), shape_pcs l, nums_false]
    simp only [pcsS, List.flatMap_cons, pcsOf, List.flatMap_append, h, List.cons_append]
    rfl
def pcFine : Pc → Prop
  | .w l => l ≠ [] ∧ ∀ c ∈ l, kd c.toNat = 2
  | .n n => n.natAbs < 4611686018427387904
  | .b _ => False
theorem sep_ok : ∀ (ps : List Pc), (∀ p ∈ ps, pcFine p) → pcOk (sepP ps)
  | [], _ => trivial
  | [p], h => by
    have hp := h p (by simp)
    cases p with
    | w l => exact ⟨hp, rfl, trivial⟩
    | n n => exact ⟨hp, rfl, trivial⟩
    | b c => exact hp.elim
  | p :: q :: r, h => by
    have hp := h p (by simp)
    have ih := sep_ok (q :: r) (fun x hx => h x (List.mem_cons_of_mem _ hx))
    have hb : pcOk (.b 32 :: sepP (q :: r)) := ⟨by decide, ih⟩
    cases p with
    | w l => exact ⟨hp, rfl, hb⟩
    | n n => exact ⟨hp, rfl, hb⟩
    | b c => exact hp.elim
theorem nums_small {s : Sg} (hg : goodOne s = true) : ∀ n ∈ numsOf s, Co n := by
  intro n hn
  obtain ⟨hk, h1, h2⟩ := good_all hg
  unfold numsOf at hn
  rcases List.mem_append.1 hn with hn | hn
  · split at hn
    · rename_i h5
      rw [List.mem_singleton] at hn
      subst hn
      unfold goodW at h2
      rw [if_pos h5] at h2
      simp only [Bool.and_eq_true, decide_eq_true_eq] at h2
      unfold Co; omega
    · simp at hn
  · exact inR_iff.1 (goodN_in h1 n (List.mem_of_mem_take hn))
theorem pcs_fine {l : List Sg} (h : ∀ s ∈ l, goodOne s = true) : ∀ p ∈ pcsS l, pcFine p := by
  intro p hp
  unfold pcsS at hp
  rw [List.mem_flatMap] at hp
  obtain ⟨s, hs, hp⟩ := hp
  have hk := (good_all (h s hs)).1
  have hf := ruleK_facts hk.1 hk.2
  unfold pcsOf at hp
  rcases List.mem_cons.1 hp with rfl | hp
  · refine ⟨by simp, fun c hc => ?_⟩
    rw [List.mem_singleton] at hc
    subst hc
    exact hf.2.2.2.2.2.2.2.2.1
  · obtain ⟨n, hn, rfl⟩ := List.mem_map.1 hp
    have := nums_small (h s hs) n hn
    unfold Co at this
    show n.natAbs < _
    omega
theorem good_parts {l : List Sg} (hg : goodS l = true) : headOk l = true ∧ l.length ≤ 4096 ∧ (∀ s ∈ l, goodOne s = true) ∧ noTwo l = true := by
  unfold goodS at hg
  simp only [Bool.and_eq_true, decide_eq_true_eq, List.all_eq_true] at hg
  exact ⟨hg.1.1.1, hg.1.1.2, hg.1.2, hg.2⟩
/-- The path of a path's text is it. -/
theorem of_text {l : List Sg} (hg : goodS l = true) (hv : ∀ s ∈ l, s.v.length = 6) : ofS (textS l) = .ok l := by
  obtain ⟨_, _, hall, _⟩ := good_parts hg
  unfold ofS
  rw [text_render, cut_pieces _ 0 (sep_ok _ (pcs_fine hall))]
  simp only
  exact parse_of false false l _ _ hg hv (by rw [toks_er, sep_er, shape_pcs])
theorem sep_len : ∀ ps : List Pc, (render (sepP ps)).length ≤ (ps.map fun p => (pcB p).length + 1).sum
  | [] => Nat.le_refl _
  | [p] => by simp [sepP, render]
  | p :: q :: r => by
    have ih := sep_len (q :: r)
    simp only [sepP, render, List.flatMap_cons, pcB, List.length_append, List.map_cons, List.sum_cons, List.length_singleton] at ih ⊢
    omega
theorem sum_pcs (f : Pc → Nat) (s : Sg) (l : List Sg) : ((pcsS (s :: l)).map f).sum = f (.w [letterB s.kind]) + (((numsOf s).map Pc.n).map f).sum + ((pcsS l).map f).sum := by
  simp [pcsS, pcsOf, Nat.add_assoc]
theorem pcs_len : ∀ l : List Sg, (∀ s ∈ l, goodOne s = true) → ((pcsS l).map fun p => (pcB p).length + 1).sum ≤ 160 * l.length
  | [], _ => Nat.le_refl _
  | s :: l, h => by
    have ih := pcs_len l (fun x hx => h x (by simp [hx]))
    have hs := nums_small (h s (by simp))
    have hk := (good_all (h s (by simp))).1
    have hf := ruleK_facts hk.1 hk.2
    have h1 : ∀ (ns : List Int), (∀ n ∈ ns, Co n) → ((ns.map Pc.n).map fun p => (pcB p).length + 1).sum ≤ 22 * ns.length := by
      intro ns
      induction ns with
      | nil => intro _; simp
      | cons n ns ih =>
        intro hn
        have h2 := ih (fun x hx => hn x (by simp [hx]))
        have h3 := hn n (by simp)
        unfold Co at h3
        have h4 := itoa_length_le n (by omega) (by omega)
        simp only [List.map_cons, List.sum_cons, List.length_cons, pcB] at h2 ⊢
        omega
    have h2 := h1 (numsOf s) hs
    have h3 : (numsOf s).length ≤ 7 := by
      unfold numsOf
      rw [List.length_append, List.length_take]
      have := hf.2.2.2.2.2.2.2.2.2.2
      split <;> simp <;> omega
    rw [sum_pcs, List.length_cons]
    have h4 : (pcB (.w [letterB s.kind])).length + 1 = 2 := rfl
    omega
theorem text_len {l : List Sg} (hg : goodS l = true) : (textS l).length ≤ 1000000 := by
  obtain ⟨_, h1, hall, _⟩ := good_parts hg
  have := sep_len (pcsS l)
  have := pcs_len l hall
  rw [text_render]
  omega
/-- What is parsed of any text is good, and its text's path is it. -/
theorem of_back {s : List UInt8} {l : List Sg} (h : ofS s = .ok l) : goodS l = true ∧ (∀ s ∈ l, SgOk s) ∧ ofS (textS l) = .ok l := by
  unfold ofS at h
  split at h
  · cases h
  · have := parse_good h
    exact ⟨this.1, this.2, of_text this.1 (fun s hs => (this.2 s hs).1)⟩
end Go.Proofs.YtefajplbgmikdaaDoor
