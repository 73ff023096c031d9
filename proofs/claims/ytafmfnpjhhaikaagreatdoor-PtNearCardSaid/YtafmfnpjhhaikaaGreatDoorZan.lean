/-
  A region in its written order, each operation told ahead.
-/
import Derived.Test.YtafmfnpjhhaikaaGreatDoorZah
namespace Go.Proofs.YtafmfnpjhhaikaaGreatDoor
open Go.RowKit Go.Shelf
variable {P : Program} {ops : Array Oper} {w0 : World}
theorem All.known : ∀ {F : Facts} {ds : List Nat} {w : World}, All F w → Known F ds w
  | [], _, _, _ => trivial
  | (i, v, Φ) :: F, ds, w, h => by
    refine ⟨?_, h.2.known⟩
    cases ds.contains i
    · trivial
    · exact h.1
def FSteady (F : Facts) : Prop := ∀ e ∈ F, ∀ v w w', e.2.2 v w → Bel w w' → e.2.2 v w'
theorem All.bel : ∀ {F : Facts} {w w' : World}, FSteady F → All F w → Bel w w' → All F w'
  | [], _, _, _, _, _ => trivial
  | (_, v, _) :: _, w, w', hs, h, hb => ⟨hs _ (List.mem_cons_self ..) v w w' h.1 hb, h.2.bel (fun e he => hs e (List.mem_cons_of_mem _ he)) hb⟩
theorem gives_step {o : Oper} {a : Act} {w : World} {Φ : Value → World → Prop} {K : Act → World → Prop} {Q : Exit → Act → World → Prop} (hg : gives P o a w Φ) (hk : ∀ u w', Bel w w' → Φ u w' → K (a.put o.dst u) w') : o.wp P a w K Q := by
  unfold gives at hg
  unfold Oper.wp
  generalize (execOp a.eval o).run P w = r at hg ⊢
  cases r with
  | halt x w' => exact hg.elim
  | ok x w' =>
    cases x <;> simp only [givesUpon] at hg <;> simp only [Oper.upon]
    case value u => exact hk u w' hg.1 hg.2
    case skip => exact hk undef w' hg.1 hg.2
    case enter f args =>
      refine hg.mono fun e w'' he => ?_
      obtain ⟨u, rfl, h1, h2⟩ := he
      exact hk u w'' h1 h2
theorem line_flow {Q : Exit → Act → World → Prop} {rest : List Oper} : ∀ (ss : List Spec) (D : List (List Nat)) (os : List Oper) (i : Nat) (a : Act) (F : Facts) (w : World), D.length = ss.length → os.length = ss.length → Steady ss → FSteady F →
    flow P ops w0 (fun a' Kn => ∀ w', Bel w0 w' → Kn w' → wpList P ops Q rest a' w') D os ss i a F → Bel w0 w → All F w → wpList P ops Q (os ++ rest) a w
  | [], [], [], _, _, _, _, _, _, _, _, h, hb, hF => h _ hb hF
  | [], _ :: _, _, _, _, _, _, h1, _, _, _, _, _, _ => by simp at h1
  | [], [], _ :: _, _, _, _, _, _, h2, _, _, _, _, _ => by simp at h2
  | _ :: _, [], _, _, _, _, _, h1, _, _, _, _, _, _ => by simp at h1
  | _ :: _, _ :: _, [], _, _, _, _, _, h2, _, _, _, _, _ => by simp at h2
  | .is c :: ss, ds :: D, o :: os, i, a, F, w, h1, h2, hst, hfs, h, hb, hF => by
    have hv := h.1 w hb hF.known
    have hn : ∀ w', Bel w w' → wpList P ops Q (os ++ rest) (a.put o.dst c) w' := fun w' hb' => line_flow ss D os (i + 1) _ F w' (by simpa using h1) (by simpa using h2) hst hfs h.2 (hb.trans hb') (hF.bel hfs hb')
    simp only [List.cons_append, wpList]
    by_cases hw : Region.wanted o (yielded ops a.tmps) = true
    · rw [if_pos hw] at hv ⊢
      exact .inl (gives_step hv fun u w' hb' hu => by subst hu; exact hn w' hb')
    · rw [if_neg hw] at hv ⊢
      rw [hv]
      exact hn w (Bel.refl w)
  | .has Φ :: ss, ds :: D, o :: os, i, a, F, w, h1, h2, hst, hfs, h, hb, hF => by
    have hv := h.1 w hb hF.known
    have hfs' : ∀ v, FSteady ((i, v, Φ) :: F) := fun v e he => by
      rcases List.mem_cons.1 he with rfl | he
      · exact hst.1
      · exact hfs e he
    have hn : ∀ u w', Bel w w' → Φ u w' → wpList P ops Q (os ++ rest) (a.put o.dst u) w' := fun u w' hb' hu => line_flow ss D os (i + 1) _ _ w' (by simpa using h1) (by simpa using h2) hst.2 (hfs' u) (h.2 u) (hb.trans hb') ⟨hu, hF.bel hfs hb'⟩
    simp only [List.cons_append, wpList]
    by_cases hw : Region.wanted o (yielded ops a.tmps) = true
    · rw [if_pos hw] at hv ⊢
      exact .inl (gives_step hv fun u w' hb' hu => hn u w' hb' hu)
    · rw [if_neg hw] at hv ⊢
      exact hn undef w (Bel.refl w) hv
/-- A region in its written order: each operation by itself; then the last ones in line. -/
theorem line_region {id : Nat} {Q : Exit → Act → World → Prop} {a : Act} {w : World} {l : List Oper} (nq : Nat) (D : List (List Nat)) (ss : List Spec) (hD : D.length = ss.length) (hsl : ss.length = nq) (hle : nq ≤ l.length) (hst : Steady ss)
    (h : flow P l.toArray w (fun a' Kn => ∀ w', Bel w w' → Kn w' → wpList P l.toArray Q (l.drop nq) a' w') D (l.take nq) ss 0 a []) : (Code.region id l.toArray false).wp P Q a w := by
  refine wp_region_lit ?_
  have h1 := line_flow ss D (l.take nq) 0 a [] w hD (by rw [List.length_take]; omega) hst (fun e he => by cases he) h (Bel.refl w) trivial
  rwa [List.take_append_drop] at h1
end Go.Proofs.YtafmfnpjhhaikaaGreatDoor
