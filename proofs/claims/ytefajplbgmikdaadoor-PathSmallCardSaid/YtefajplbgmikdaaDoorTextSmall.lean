/-
  The path of a path in small letters is it. No program in this text.
-/
import Derived.Test.YtefajplbgmikdaaDoorTextMain
namespace Go.Proofs.YtefajplbgmikdaaDoor
open Go.Lib

def smW (s : Sg) : List UInt8 := if s.kind = 5 then itoa s.w else []
def smN (ns : List Int) : List UInt8 := ns.flatMap fun n => 32 :: itoa n
/-- One part in small letters. -/
def smB (p : Pen) (s : Sg) : List UInt8 := (letterB s.kind + 32) :: (smW s ++ smN (relN true p (s.v.take (countK s.kind)) 0))
def smallS : List Sg → Pen → List UInt8
  | [], _ => []
  | s :: r, p => smB p s ++ smallS r (nextP p s)
def smWP (s : Sg) : List Pc := if s.kind = 5 then [.n s.w] else []
def smNP (ns : List Int) : List Pc := ns.flatMap fun n => [.b 32, .n n]
def smP : List Sg → Pen → List UInt8 → List Pc
  | [], _, pre => if pre = [] then [] else [.w pre]
  | s :: r, p, pre =>
    if numsP true p s = [] then smP r (nextP p s) (pre ++ [letterB s.kind + 32])
    else .w (pre ++ [letterB s.kind + 32]) :: (smWP s ++ (smNP (relN true p (s.v.take (countK s.kind)) 0) ++ smP r (nextP p s) []))
theorem render_cons (p : Pc) (ps : List Pc) : render (p :: ps) = pcB p ++ render ps := by simp [render]
theorem render_app (a b : List Pc) : render (a ++ b) = render a ++ render b := by simp [render]
theorem smN_render : ∀ ns : List Int, render (smNP ns) = smN ns
  | [] => rfl
  | n :: ns => by
    have ih := smN_render ns
    simp only [smNP, smN, List.flatMap_cons, render_app] at ih ⊢
    rw [ih]
    simp [render, pcB]
theorem smP_render : ∀ (l : List Sg) (p : Pen) (pre : List UInt8), render (smP l p pre) = pre ++ smallS l p
  | [], p, pre => by
    unfold smP smallS
    split
    · rename_i h; subst h; rfl
    · simp [render, pcB]
  | s :: r, p, pre => by
    rw [smP, smallS]
    split
    · rename_i h
      rw [smP_render r]
      unfold numsP at h
      rw [List.append_eq_nil_iff] at h
      have h5 : s.kind ≠ 5 := fun e => by rw [if_pos e] at h; cases h.1
      unfold smB smW
      rw [h.2, if_neg h5]
      simp [smN]
    · rw [render_cons, render_app, render_app, smP_render r, smN_render]
      have : render (smWP s) = smW s := by
        unfold smWP smW
        split <;> simp [render, pcB]
      rw [this]
      simp [pcB, smB, List.append_assoc]
theorem smN_er : ∀ ns : List Int, (smNP ns).flatMap pcE = ns.map numE
  | [] => rfl
  | n :: ns => by
    have ih := smN_er ns
    simp only [smNP, List.flatMap_cons, List.flatMap_append] at ih ⊢
    rw [ih]
    rfl
theorem smP_er : ∀ (l : List Sg) (p : Pen) (pre : List UInt8), (smP l p pre).flatMap pcE = shapeI true (itsP true l p) pre
  | [], p, pre => by
    unfold smP itsP shapeI
    split
    · rfl
    · rfl
  | s :: r, p, pre => by
    rw [smP, itsP, shapeI]
    simp only [if_true, true_and]
    split
    · exact smP_er r _ _
    · rw [List.flatMap_cons, List.flatMap_append, List.flatMap_append, smP_er r, smN_er]
      have : (smWP s).flatMap pcE = (if s.kind = 5 then [s.w] else []).map numE := by
        unfold smWP
        split <;> rfl
      rw [this]
      simp [pcE, numsP, List.append_assoc]
theorem isW_small : ∀ (l : List Sg) (p : Pen) (pre : List UInt8), isN (smP l p pre) = false
  | [], p, pre => by
    unfold smP
    split <;> rfl
  | s :: r, p, pre => by
    rw [smP]
    split
    · exact isW_small r _ _
    · rfl
theorem smN_ok : ∀ (ns : List Int) (r : List Pc), (∀ n ∈ ns, n.natAbs < 4611686018427387904) → pcOk r → isN r = false → pcOk (smNP ns ++ r) ∧ isN (smNP ns ++ r) = false
  | [], r, _, h1, h2 => ⟨h1, h2⟩
  | n :: ns, r, h, h1, h2 => by
    have ih := smN_ok ns r (fun x hx => h x (by simp [hx])) h1 h2
    exact ⟨⟨by decide, h n (by simp), ih.2, ih.1⟩, rfl⟩
theorem rel_small {p : Pen} (hp : PenOk p) : ∀ (l : List Int) (i : Nat), (∀ v ∈ l, Co v) → ∀ n ∈ relN true p l i, n.natAbs < 4611686018427387904
  | [], _, _, n, hn => by simp [relN] at hn
  | v :: l, i, h, n, hn => by
    rw [relN] at hn
    rcases List.mem_cons.1 hn with rfl | hn
    · have h1 := h v (by simp)
      have h2 := hp.x
      have h3 := hp.y
      unfold Co at h1 h2 h3
      simp only [if_true]
      split <;> omega
    · exact rel_small hp l (i + 1) (fun x hx => h x (by simp [hx])) n hn
theorem sg_of_good {s : Sg} (hg : goodOne s = true) (hv : s.v.length = 6) : SgOk s := ⟨hv, fun v hv' => inR_iff.1 (goodN_in (good_all hg).2.1 v hv')⟩
theorem smP_ok : ∀ (l : List Sg) (p : Pen) (pre : List UInt8), (∀ s ∈ l, goodOne s = true ∧ s.v.length = 6) → PenOk p → (∀ c ∈ pre, kd c.toNat = 2) → pcOk (smP l p pre)
  | [], p, pre, _, _, hpre => by
    unfold smP
    split
    · trivial
    · rename_i h
      exact ⟨⟨h, hpre⟩, rfl, trivial⟩
  | s :: r, p, pre, h, hp, hpre => by
    have hs := h s (by simp)
    have hk := (good_all hs.1).1
    have hf := ruleK_facts hk.1 hk.2
    have hso := sg_of_good hs.1 hs.2
    have hp2 : PenOk (nextP p s) := move_ok hp hso
    have hpre2 : ∀ c ∈ pre ++ [letterB s.kind + 32], kd c.toNat = 2 := fun c hc => by
      rcases List.mem_append.1 hc with hc | hc
      · exact hpre c hc
      · rw [List.mem_singleton.1 hc]; exact hf.2.2.2.2.2.2.2.2.2.1
    rw [smP]
    split
    · exact smP_ok r _ _ (fun x hx => h x (by simp [hx])) hp2 hpre2
    · rename_i hne
      have ih := smP_ok r (nextP p s) [] (fun x hx => h x (by simp [hx])) hp2 (by simp)
      have hn := smN_ok (relN true p (s.v.take (countK s.kind)) 0) _ (rel_small hp _ 0 (fun v hv => hso.2 v (List.mem_of_mem_take hv))) ih (isW_small r _ _)
      refine ⟨⟨by simp, hpre2⟩, ?_⟩
      unfold smWP
      split
      · rename_i h5
        have hw := (good_all hs.1).2.2
        unfold goodW at hw
        rw [if_pos h5] at hw
        simp only [Bool.and_eq_true, decide_eq_true_eq] at hw
        exact ⟨rfl, by omega, hn.2, hn.1⟩
      · rename_i h5
        refine ⟨?_, hn.1⟩
        have : relN true p (s.v.take (countK s.kind)) 0 ≠ [] := fun e => hne (by unfold numsP; rw [e, if_neg h5]; rfl)
        cases hr : relN true p (s.v.take (countK s.kind)) 0 with
        | nil => exact absurd hr this
        | cons a b => rfl
/-- The path of a path in small letters is it. -/
theorem of_small {l : List Sg} (hg : goodS l = true) (hv : ∀ s ∈ l, s.v.length = 6) : ofS (smallS l pen0) = .ok l := by
  obtain ⟨_, _, hall, _⟩ := good_parts hg
  have h1 := smP_render l pen0 []
  rw [List.nil_append] at h1
  unfold ofS
  rw [← h1, cut_pieces _ 0 (smP_ok l pen0 [] (fun s hs => ⟨hall s hs, hv s hs⟩) pen0_ok (by simp))]
  simp only
  exact parse_of true true l _ _ hg hv (by rw [toks_er, smP_er])
end Go.Proofs.YtefajplbgmikdaaDoor
