/-
  As XFlowD's region_flowN, the last ones (stores in boxes of the call's own) told one by one; what only reads may come between them.
-/
import Derived.Test.YtafmfnpjhhaikaaGreatDoorZau
import Derived.Test.YtafmfnpjhhaikaaGreatDoorZat
import Derived.Test.YtafmfnpjhhaikaaGreatDoorZap
namespace Go.Proofs.YtafmfnpjhhaikaaGreatDoor
open Go

variable {P : Program} {ops : Array Oper} {md : Region.Mode} {w0 : World}
def flowT (P : Program) (ops : Array Oper) (w0 : World) (T : Act → Facts → Prop) (H : List Nat) : List (List Nat) → List Oper → List Spec → Nat → Act → Facts → Prop
  | ds :: D, o :: os, .is c :: ss, i, a, F => (match H.contains i with
      | true => ∀ w', Bel w0 w' → Known F ds w' → ∀ w, Bel w0 w → if Region.wanted o (yielded ops a.tmps) = true then (execOp a.eval o).run P w = .ok (.value c) w else undef = c
      | false => ∀ w, Bel w0 w → Known F ds w → if Region.wanted o (yielded ops a.tmps) = true then gives P o a w (fun v _ => v = c) else undef = c) ∧ flowT P ops w0 T H D os ss (i + 1) (a.put o.dst c) F
  | ds :: D, o :: os, .has Φ :: ss, i, a, F => (∀ w, Bel w0 w → Known F ds w → if Region.wanted o (yielded ops a.tmps) = true then gives P o a w Φ else Φ undef w) ∧ ∀ v, flowT P ops w0 T H D os ss (i + 1) (a.put o.dst v) ((i, v, Φ) :: F)
  | _, _, _, _, a, F => T a F
theorem hole_is {H : List Nat} {i : Nat} {F : Facts} {ds : List Nat} {o : Oper} {a : Act} {c : Value} (h : match H.contains i with
      | true => ∀ w', Bel w0 w' → Known F ds w' → ∀ w, Bel w0 w → if Region.wanted o (yielded ops a.tmps) = true then (execOp a.eval o).run P w = .ok (.value c) w else undef = c
      | false => ∀ w, Bel w0 w → Known F ds w → if Region.wanted o (yielded ops a.tmps) = true then gives P o a w (fun v _ => v = c) else undef = c) :
    ∀ w, Bel w0 w → Known F ds w → if Region.wanted o (yielded ops a.tmps) = true then gives P o a w (fun v _ => v = c) else undef = c := by
  intro w hb hk
  cases hc : H.contains i with
  | false => rw [hc] at h; exact h w hb hk
  | true =>
    rw [hc] at h
    have := h w hb hk w hb
    by_cases hw : Region.wanted o (yielded ops a.tmps) = true
    · rw [if_pos hw] at this ⊢
      exact gives_val this
    · rw [if_neg hw] at this ⊢
      exact this
theorem flowT_flow {T : Act → Facts → Prop} {H : List Nat} : ∀ (ss : List Spec) (D : List (List Nat)) (os : List Oper) (i : Nat) (a : Act) (F : Facts), flowT P ops w0 T H D os ss i a F → flow P ops w0 (fun _ _ => True) D os ss i a F
  | [], D, os, _, _, _, _ => by cases D <;> cases os <;> trivial
  | s :: ss, [], os, _, _, _, _ => by cases os <;> cases s <;> trivial
  | s :: ss, _ :: _, [], _, _, _, _ => by cases s <;> trivial
  | .is c :: ss, ds :: D, o :: os, i, a, F, h => ⟨hole_is h.1, flowT_flow ss D os (i + 1) _ F h.2⟩
  | .has Φ :: ss, ds :: D, o :: os, i, a, F, h => ⟨h.1, fun v => flowT_flow ss D os (i + 1) _ _ (h.2 v)⟩
theorem flowT_end {T : Act → Facts → Prop} {H : List Nat} : ∀ (ss : List Spec) (D : List (List Nat)) (os : List Oper) (i : Nat) (a : Act) (F : Facts) (vs : Nat → Value), os.length = ss.length → D.length = ss.length → Fits ss i vs →
    flowT P ops w0 T H D os ss i a F → T (putsL os i vs a) (factsOf ss i vs F) := by
  intro ss
  induction ss with
  | nil =>
    intro D os i a F vs h1 h2 _ h
    obtain rfl : os = [] := List.length_eq_zero_iff.1 h1
    obtain rfl : D = [] := List.length_eq_zero_iff.1 h2
    exact h
  | cons s ss ih =>
    intro D os i a F vs h1 h2 hf h
    cases os with
    | nil => simp at h1
    | cons o os =>
      cases D with
      | nil => simp at h2
      | cons ds D =>
        have hf' : Fits ss (i + 1) vs := fun k c' hk => by have := hf (k + 1) c' (by simpa using hk); rwa [show i + (k + 1) = i + 1 + k by omega] at this
        cases s with
        | is c =>
          simp only [putsL, factsOf]
          have h0 : vs i = c := hf 0 c (by simp)
          rw [h0]
          exact ih D os (i + 1) _ F vs (by simpa using h1) (by simpa using h2) hf' h.2
        | has Φ =>
          simp only [putsL, factsOf]
          exact ih D os (i + 1) _ _ vs (by simpa using h1) (by simpa using h2) hf' (h.2 (vs i))
theorem flowT_at {T : Act → Facts → Prop} {H : List Nat} : ∀ (D : List (List Nat)) (os : List Oper) (ss : List Spec) (i : Nat) (a : Act) (F : Facts) (vs : Nat → Value), Fits ss i vs → flowT P ops w0 T H D os ss i a F →
    ∀ (k : Nat) (o : Oper) (c : Value) (ds : List Nat), os[k]? = some o → ss[k]? = some (.is c) → D[k]? = some ds → i + k ∈ H → ∀ w', Bel w0 w' → Known (factsOf (ss.take k) i vs F) ds w' → ∀ w, Bel w0 w →
      if Region.wanted o (yielded ops (putsL (os.take k) i vs a).tmps) = true then (execOp (putsL (os.take k) i vs a).eval o).run P w = .ok (.value c) w else undef = c
  | [], _, _, _, _, _, _, _, _, _, _, _, _, _, _, hD, _ => by simp at hD
  | _ :: _, [], _, _, _, _, _, _, _, _, _, _, _, ho, _, _, _ => by simp at ho
  | _ :: _, _ :: _, [], _, _, _, _, _, _, _, _, _, _, _, hs, _, _ => by simp at hs
  | ds :: D, o :: os, .is c :: ss, i, a, F, vs, hf, h, 0, o', c', ds', ho, hs, hD, hH => by
    simp at ho hs hD
    subst ho; subst hs; subst hD
    have h1 := h.1
    have hc : H.contains i = true := by simpa using hH
    rw [hc] at h1
    exact h1
  | ds :: D, o :: os, .has Φ :: ss, i, a, F, vs, hf, h, 0, o', c', ds', ho, hs, hD, hH => by simp at hs
  | ds :: D, o :: os, .is c :: ss, i, a, F, vs, hf, h, k + 1, o', c', ds', ho, hs, hD, hH => by
    simp only [List.take_succ_cons, putsL, factsOf]
    have h0 : vs i = c := hf 0 c (by simp)
    rw [h0]
    exact flowT_at D os ss (i + 1) _ F vs (fun k c' hk => by have := hf (k + 1) c' (by simpa using hk); rwa [show i + (k + 1) = i + 1 + k by omega] at this) h.2 k o' c' ds' (by simpa using ho) (by simpa using hs) (by simpa using hD) (by rwa [show i + 1 + k = i + (k + 1) by omega])
  | ds :: D, o :: os, .has Φ :: ss, i, a, F, vs, hf, h, k + 1, o', c', ds', ho, hs, hD, hH => by
    simp only [List.take_succ_cons, putsL, factsOf]
    exact flowT_at D os ss (i + 1) _ _ vs (fun k c' hk => by have := hf (k + 1) c' (by simpa using hk); rwa [show i + (k + 1) = i + 1 + k by omega] at this) (h.2 (vs i)) k o' c' ds' (by simpa using ho) (by simpa using hs) (by simpa using hD) (by rwa [show i + 1 + k = i + (k + 1) by omega])

/-- How the region must be made: nothing is written twice, each reads what it waits for, the last ones wait for all but the holes. -/
def flowTB (md : Region.Mode) (ops : Array Oper) (nq : Nat) (H : List Nat) (D : List (List Nat)) : Bool :=
  Region.noSelect ops && decide (nq ≤ ops.size) && (D.length == nq) &&
  ((List.range nq).all fun i => opAt ops i fun o => (o.after.all fun e => !Region.binds md e || decide (e.on < i)) &&
    ((D.getD i []).all fun k => decide (k < i) && reachF md ops k 8 o) &&
    (List.range nq).all fun k => opAt ops k fun o' => (match o'.dst with
      | none => true
      | some t => (k == i || o.dst != some t) && (!(o.looksAt ops).contains t || (D.getD i []).contains k))) &&
  ((List.range ops.size).all fun m => decide (m < nq) || opAt ops m fun o => (List.range nq).all fun i => H.contains i || reachF md ops i 8 o) &&
  (H.all fun j => decide (j < nq)) &&
  ((List.range ops.size).all fun m => decide (m < nq) || opAt ops m fun o => (o.after.all fun e => !Region.binds md e || decide (e.on < m)) && ((List.range m).all fun i => decide (i < nq) || reachF md ops i 8 o) &&
    (List.range nq).all fun i => opAt ops i fun o' => match o'.dst with
      | none => true
      | some t => !(o.looksAt ops).contains t || reachF md ops i 8 o)
structure FormT (md : Region.Mode) (ops : Array Oper) (nq : Nat) (H : List Nat) (D : List (List Nat)) : Prop where
  sel : Region.noSelect ops = true
  le : nq ≤ ops.size
  len : D.length = nq
  op : ∀ i, i < nq → ∃ o, ops[i]? = some o
  back : ∀ i o, i < nq → ops[i]? = some o → ∀ e ∈ o.after, Region.binds md e = true → e.on < i
  dep : ∀ i o, i < nq → ops[i]? = some o → ∀ k ∈ D.getD i [], k < i ∧ reachF md ops k 8 o = true
  once : ∀ i o k o', i < nq → ops[i]? = some o → k < nq → ops[k]? = some o' → k ≠ i → ∀ t, o'.dst = some t → o.dst ≠ some t
  reads : ∀ i o k o', i < nq → ops[i]? = some o → k < nq → ops[k]? = some o' → ∀ t, o'.dst = some t → t ∈ o.looksAt ops → k ∈ D.getD i []
  tail : ∀ m o i, nq ≤ m → ops[m]? = some o → i < nq → i ∉ H → reachF md ops i 8 o = true
  hlt : ∀ j ∈ H, j < nq
  chain : ∀ m o i, nq ≤ i → i < m → ops[m]? = some o → reachF md ops i 8 o = true
  bk : ∀ m o, nq ≤ m → ops[m]? = some o → ∀ e ∈ o.after, Region.binds md e = true → e.on < m
  looks : ∀ m o i o' t, nq ≤ m → ops[m]? = some o → i < nq → ops[i]? = some o' → o'.dst = some t → t ∈ o.looksAt ops → reachF md ops i 8 o = true
theorem formT_of {nq : Nat} {H : List Nat} {D : List (List Nat)} (h : flowTB md ops nq H D = true) : FormT md ops nq H D := by
  simp only [flowTB, Bool.and_eq_true, decide_eq_true_eq, beq_iff_eq] at h
  obtain ⟨⟨⟨⟨⟨⟨h1, h2⟩, h3⟩, h4⟩, h5⟩, hh1⟩, hh2⟩ := h
  have g : ∀ i o, i < nq → ops[i]? = some o → ((o.after.all fun e => !Region.binds md e || decide (e.on < i)) &&
    ((D.getD i []).all fun k => decide (k < i) && reachF md ops k 8 o) &&
    (List.range nq).all fun k => opAt ops k fun o' => (match o'.dst with
      | none => true
      | some t => (k == i || o.dst != some t) && (!(o.looksAt ops).contains t || (D.getD i []).contains k))) = true := fun i o hi ho => by
    obtain ⟨o', ho', hp⟩ := opAt_of (List.all_eq_true.1 h4 i (List.mem_range.2 hi))
    rw [ho] at ho'
    cases ho'
    exact hp
  refine ⟨h1, h2, h3, fun i hi => ?_, fun i o hi ho e he hb => ?_, fun i o hi ho k hk => ?_, fun i o k o' hi ho hk ho' hne t ht hc => ?_, fun i o k o' hi ho hk ho' t ht hl => ?_, fun m o i hm ho hi hne => ?_, fun j hj => by simpa using List.all_eq_true.1 hh1 j hj, fun m o i hi him ho => ?_, fun m o hm ho e he hb => ?_, fun m o i o' t hm ho hi ho' ht hl => ?_⟩
  · obtain ⟨o', ho', _⟩ := opAt_of (List.all_eq_true.1 h4 i (List.mem_range.2 hi))
    exact ⟨o', ho'⟩
  · have := g i o hi ho
    simp only [Bool.and_eq_true] at this
    have h7 := Array.all_eq_true_iff_forall_mem.1 this.1.1 e he
    simp only [Bool.or_eq_true, Bool.not_eq_true', decide_eq_true_eq] at h7
    rcases h7 with h7 | h7
    · rw [hb] at h7; cases h7
    · exact h7
  · have := g i o hi ho
    simp only [Bool.and_eq_true] at this
    have h7 := List.all_eq_true.1 this.1.2 k hk
    simpa using h7
  · have := g i o hi ho
    simp only [Bool.and_eq_true] at this
    obtain ⟨o2, ho2, hp⟩ := opAt_of (List.all_eq_true.1 this.2 k (List.mem_range.2 hk))
    rw [ho'] at ho2
    cases ho2
    simp only [ht, Bool.and_eq_true, Bool.or_eq_true, beq_iff_eq, bne_iff_ne] at hp
    rcases hp.1 with h8 | h8
    · exact hne h8
    · exact h8 hc
  · have := g i o hi ho
    simp only [Bool.and_eq_true] at this
    obtain ⟨o2, ho2, hp⟩ := opAt_of (List.all_eq_true.1 this.2 k (List.mem_range.2 hk))
    rw [ho'] at ho2
    cases ho2
    simp only [ht, Bool.and_eq_true, Bool.or_eq_true, Bool.not_eq_true', List.contains_eq_mem, decide_eq_true_eq, decide_eq_false_iff_not] at hp
    rcases hp.2 with h8 | h8
    · exact absurd hl h8
    · exact h8
  · have h7 := List.all_eq_true.1 h5 m (List.mem_range.2 (Array.getElem?_eq_some_iff.1 ho).1)
    simp only [Bool.or_eq_true, decide_eq_true_eq] at h7
    rcases h7 with h7 | h7
    · omega
    · obtain ⟨o2, ho2, hp⟩ := opAt_of h7
      rw [ho] at ho2
      cases ho2
      have := List.all_eq_true.1 hp i (List.mem_range.2 hi)
      simp only [Bool.or_eq_true, List.contains_eq_mem, decide_eq_true_eq] at this
      exact this.resolve_left hne
  · have h7 := List.all_eq_true.1 hh2 m (List.mem_range.2 (Array.getElem?_eq_some_iff.1 ho).1)
    simp only [Bool.or_eq_true, decide_eq_true_eq] at h7
    rcases h7 with h7 | h7
    · omega
    · obtain ⟨o2, ho2, hp⟩ := opAt_of h7
      rw [ho] at ho2
      cases ho2
      simp only [Bool.and_eq_true] at hp
      have := List.all_eq_true.1 hp.1.2 i (List.mem_range.2 him)
      simp only [Bool.or_eq_true, decide_eq_true_eq] at this
      rcases this with h8 | h8
      · omega
      · exact h8
  · have h7 := List.all_eq_true.1 hh2 m (List.mem_range.2 (Array.getElem?_eq_some_iff.1 ho).1)
    simp only [Bool.or_eq_true, decide_eq_true_eq] at h7
    rcases h7 with h7 | h7
    · omega
    · obtain ⟨o2, ho2, hp⟩ := opAt_of h7
      rw [ho] at ho2
      cases ho2
      simp only [Bool.and_eq_true] at hp
      have h8 := Array.all_eq_true_iff_forall_mem.1 hp.1.1 e he
      simp only [Bool.or_eq_true, Bool.not_eq_true', decide_eq_true_eq] at h8
      rcases h8 with h8 | h8
      · rw [hb] at h8; cases h8
      · exact h8
  · have h7 := List.all_eq_true.1 hh2 m (List.mem_range.2 (Array.getElem?_eq_some_iff.1 ho).1)
    simp only [Bool.or_eq_true, decide_eq_true_eq] at h7
    rcases h7 with h7 | h7
    · omega
    · obtain ⟨o2, ho2, hp⟩ := opAt_of h7
      rw [ho] at ho2
      cases ho2
      simp only [Bool.and_eq_true] at hp
      obtain ⟨o3, ho3, hq⟩ := opAt_of (List.all_eq_true.1 hp.2 i (List.mem_range.2 hi))
      rw [ho'] at ho3
      cases ho3
      rw [ht] at hq
      simp only [Bool.or_eq_true, Bool.not_eq_true', List.contains_eq_mem, decide_eq_false_iff_not] at hq
      exact hq.resolve_left (fun h => h hl)
/-- The last ones: stores, one by one. -/
def lineB (md : Region.Mode) (ops : Array Oper) (nq m : Nat) : Bool := (opAt ops m fun o => (List.range nq).all fun i => reachF md ops i 8 o) && tailB md ops (ops.size - m) m
def TailP (P : Program) (md : Region.Mode) (ops : Array Oper) (nq : Nat) (w0 : World) (Q : Exit → Act → World → Prop) : Nat → List Oper → Act → World → Prop
  | _, [], a, w => Q .normal a w
  | m, o :: os, a, w => (o.dst = none ∧ Region.wanted o (yielded ops a.tmps) = true ∧ ∃ w', (execOp a.eval o).run P w = .ok .skip w' ∧ Bel w0 w' ∧ TailP P md ops nq w0 Q (m + 1) os a w') ∨ (lineB md ops nq m = true ∧ wpList P ops Q (o :: os) a w)
structure InvT (md : Region.Mode) (ops : Array Oper) (nq : Nat) (H : List Nat) (os : List Oper) (vs : Nat → Value) (w0 : World) (a0 : Act) (Q : Exit → Act → World → Prop) (P : Program) (l : List Oper) (listed : Array Bool) (k : Nat) (a : Act) (w : World) : Prop where
  size : listed.size = ops.size
  shut : Shut md ops listed
  bel : Bel w0 w
  main : ∀ j, j < nq → j ∉ H → listed.getD j false = true
  late : ∀ j, nq ≤ j → j < ops.size → (listed.getD j false = true ↔ j < nq + k)
  frame : a = putsM os 0 (fun i => listed.getD i false) vs a0
  tl : TailP P md ops nq w0 Q (nq + k) (l.drop (nq + k)) (putsL os 0 vs a0) w
theorem putsM_lt : ∀ (os : List Oper) (i : Nat) (f g : Nat → Bool) (vs : Nat → Value) (a : Act), (∀ k, i ≤ k → k < i + os.length → f k = g k) → putsM os i f vs a = putsM os i g vs a
  | [], _, _, _, _, _, _ => rfl
  | o :: os, i, f, g, vs, a, h => by
    simp only [putsM]
    rw [h i (Nat.le_refl _) (by simp), putsM_lt os (i + 1) f g vs _ (fun k h1 h2 => h k (by omega) (by simp; omega))]
theorem set_getD {listed : Array Bool} {j : Nat} (hj : j < listed.size) (k : Nat) : (listed.setIfInBounds j true).getD k false = if k = j then true else listed.getD k false := by
  by_cases hk : k = j
  · subst hk
    simp [hj]
  · rw [if_neg hk, getD_set_ne false (Ne.symm hk)]
theorem tail_any {Q : Exit → Act → World → Prop} {nq : Nat} {H : List Nat} {D : List (List Nat)} {os : List Oper} {ss : List Spec} {a0 : Act} {l : List Oper} {vs : Nat → Value} (hF : FormT md ops nq H D) (hl : ∀ j : Nat, l[j]? = ops[j]?) (hos : ∀ k, k < nq → os[k]? = ops[k]?) (hol : os.length = nq) (hsl : ss.length = nq)
    (hhole : ∀ j o, j ∈ H → ops[j]? = some o → ∃ c, vs j = c ∧ ∀ w, Bel w0 w → if Region.wanted o (yielded ops (putsL (os.take j) 0 vs a0).tmps) = true then (execOp (putsL (os.take j) 0 vs a0).eval o).run P w = .ok (.value c) w else undef = c) :
    ∀ (m k : Nat) (listed : Array Bool) (a : Act) (w : World), cnt (fun i => listed.getD i false) nq + (ops.size - (nq + k)) = m → nq + k ≤ ops.size → InvT md ops nq H os vs w0 a0 Q P l listed k a w → wpAny P md ops Q m listed a w := by
  intro m
  induction m with
  | zero =>
    intro k listed a w hm hk hI
    have hall := cnt_zero (f := fun i => listed.getD i false) (n := nq) (by omega)
    have hks : nq + k = ops.size := by omega
    have hlist : ∀ j, j < ops.size → listed.getD j false = true := fun j hj => by
      by_cases h : j < nq
      · exact hall j h
      · exact (hI.late j (by omega) hj).2 (by omega)
    have htl := hI.tl
    rw [List.drop_eq_nil_iff.2 (by
      have : l.length ≤ ops.size := by
        refine Nat.le_of_not_lt fun h => ?_
        have h1 := hl ops.size
        rw [Array.getElem?_eq_none (Nat.le_refl _)] at h1
        exact absurd (List.getElem?_eq_none_iff.1 h1) (by omega)
      omega)] at htl
    refine ⟨?_, ?_⟩
    · refine List.eq_nil_iff_forall_not_mem.2 fun j hj => ?_
      obtain ⟨hjun, oj, hoj, -⟩ := mem_ready.1 hj
      have hjs := (Array.getElem?_eq_some_iff.1 hoj).1
      have h1 := hlist j hjs
      have h2 : j < listed.size := by rw [hI.size]; exact hjs
      simp [h2] at h1 hjun
      rw [h1] at hjun
      cases hjun
    · rw [hI.frame, putsM_all os 0 _ vs a0 (fun i _ hi => hall i (by omega))]
      exact htl
  | succ m ih =>
    intro k listed a w hm hk hI
    have untrue : ∀ {i : Nat}, i < ops.size → listed.getD i false = false → listed.getD i true = false := fun {i} hi h => by
      have : i < listed.size := by rw [hI.size]; exact hi
      simp [this] at h ⊢
      exact h
    by_cases hln : cnt (fun i => listed.getD i false) nq = 0 ∧ lineB md ops nq (nq + k) = true ∧ ∃ o os', l.drop (nq + k) = o :: os' ∧ wpList P ops Q (o :: os') (putsL os 0 vs a0) w
    · obtain ⟨hc, hlb, o, os', hd, hwp⟩ := hln
      have hall := cnt_zero hc
      have hfirst : listed = firstN ops.size (nq + k) := by
        refine Array.ext (by rw [hI.size]; simp [firstN]) fun i h1 h2 => ?_
        have e : listed[i] = listed.getD i false := by simp [h1]
        rw [e]
        simp only [firstN, Array.getElem_map, Array.getElem_range]
        have his : i < ops.size := by rw [hI.size] at h1; exact h1
        by_cases hi : i < nq
        · rw [hall i hi]; simp; omega
        · have := hI.late i (by omega) his
          cases h : listed.getD i false
          · have h3 : ¬ i < nq + k := fun h4 => by rw [this.2 h4] at h; cases h
            simp [h3]
          · have h3 := this.1 h
            simp [h3]
      simp only [lineB, Bool.and_eq_true] at hlb
      have hsz : l.length = ops.size := by
        refine Nat.le_antisymm (Nat.le_of_not_lt fun h => ?_) (Nat.le_of_not_lt fun h => ?_)
        · have h1 := hl ops.size
          rw [Array.getElem?_eq_none (Nat.le_refl _)] at h1
          exact absurd (List.getElem?_eq_none_iff.1 h1) (by omega)
        · have h1 := hl l.length
          rw [List.getElem?_eq_none (Nat.le_refl _)] at h1
          exact absurd (Array.getElem?_eq_none_iff.1 h1.symm) (by omega)
      rw [hfirst, hI.frame, putsM_all os 0 _ vs a0 (fun i _ hi => hall i (by omega)), ← hm, hc, Nat.zero_add]
      exact wpAny_line (ops.size - (nq + k)) (nq + k) (l.drop (nq + k)) _ w (by omega) (fun j => by rw [List.getElem?_drop, hl]) (by rw [List.length_drop, hsz]) hlb.2 (by rw [hd]; exact hwp)
    have hready : ∃ j, j ∈ Region.ready md ops listed := by
      by_cases hc : cnt (fun i => listed.getD i false) nq = 0
      · have hall := cnt_zero hc
        have hks : nq + k < ops.size := by omega
        obtain ⟨o, ho⟩ : ∃ o, ops[nq + k]? = some o := ⟨_, Array.getElem?_eq_getElem hks⟩
        have hun : listed.getD (nq + k) false = false := by
          cases h : listed.getD (nq + k) false
          · rfl
          · have := (hI.late (nq + k) (by omega) hks).1 h; omega
        exact ⟨nq + k, mem_ready.2 ⟨untrue hks hun, o, ho, fun e he hb => by
          have hlt := hF.bk (nq + k) o (by omega) ho e he hb
          by_cases h : e.on < nq
          · exact hall _ h
          · exact (hI.late e.on (by omega) (by omega)).2 hlt⟩⟩
      · obtain ⟨i0, hi0, hun, hlow⟩ := cnt_pos (f := fun i => listed.getD i false) (n := nq) hc
        obtain ⟨o, ho⟩ := hF.op i0 hi0
        exact ⟨i0, mem_ready.2 ⟨untrue (by have := hF.le; omega) hun, o, ho, fun e he hb => hlow e.on (hF.back i0 o hi0 ho e he hb)⟩⟩
    obtain ⟨j0, hj0⟩ := hready
    refine ⟨fun h => (by rw [h] at hj0; cases hj0), fun j hj => ?_⟩
    obtain ⟨hjun, oj, hoj, hall⟩ := mem_ready.1 hj
    have hjs := (Array.getElem?_eq_some_iff.1 hoj).1
    have hjl : j < listed.size := by rw [hI.size]; exact hjs
    have hjun' : listed.getD j false = false := by
      simp [hjl] at hjun ⊢
      exact hjun
    have hset := fun i => set_getD (listed := listed) hjl i
    unfold wpOp
    rw [hoj]
    dsimp only
    by_cases hjn : j < nq
    · have hjH : j ∈ H := Decidable.byContradiction fun h => by rw [hI.main j hjn h] at hjun'; cases hjun'
      obtain ⟨c, hvc, hcond⟩ := hhole j oj hjH hoj
      have hoj' : os[j]? = some oj := (hos j hjn).trans hoj
      obtain ⟨dj, hdj⟩ : ∃ d, D[j]? = some d := ⟨_, List.getElem?_eq_getElem (by rw [hF.len]; omega)⟩
      have hdj' : D.getD j [] = dj := by rw [List.getD_eq_getElem?_getD, hdj]; rfl
      have hslots : ∀ t ∈ oj.looksAt ops, (putsL (os.take j) 0 vs a0).tmps[t]? = (putsM os 0 (fun i => listed.getD i false) vs a0).tmps[t]? := by
        intro t ht
        rw [putsL_take]
        refine slot_congr os 0 t _ _ vs a0 a0 rfl rfl fun k o hk hdst => ?_
        have hkn : k < nq := by have := (List.getElem?_eq_some_iff.1 hk).1; omega
        have h1 := hF.reads j oj k o hjn hoj hkn ((hos k hkn).symm.trans hk) t hdst ht
        have h2 := hF.dep j oj hjn hoj k h1
        have h3 := reachF_listed hI.shut 8 oj hall h2.2
        rw [Nat.zero_add, h3]
        simp [h2.1]
      have hstep : wpAny P md ops Q m (listed.setIfInBounds j true) (a.put oj.dst c) w := by
        refine ih k _ _ _ ?_ hk ⟨by rw [Array.size_setIfInBounds]; exact hI.size, hI.shut.add hj, hI.bel, fun i hi hiH => ?_, fun i hi his => ?_, ?_, hI.tl⟩
        · have := (cnt_set (f := fun i => listed.getD i false) (g := fun i => (listed.setIfInBounds j true).getD i false) (j := j) hjun' (by simp only [hset, if_true]) (fun k hk => by simp only [hset]; rw [if_neg hk]) (n := nq)).2 hjn
          omega
        · rw [hset]
          split
          · rfl
          · exact hI.main i hi hiH
        · rw [hset, if_neg (by omega)]
          exact hI.late i hi his
        · rw [hI.frame, putsM_set os 0 j _ vs a0 oj c hoj' (by rw [Nat.zero_add]; exact hjun') (fun k o' hk hne t ht hc => by
            have hkn : k < nq := by have := (List.getElem?_eq_some_iff.1 hk).1; omega
            exact hF.once k o' j oj hkn ((hos k hkn).symm.trans hk) hjn hoj (Ne.symm hne) t ht hc)]
          refine putsM_congr os 0 _ _ _ _ a0 fun i _ => ⟨?_, ?_⟩
          · rw [hset, Nat.zero_add]
          · rw [Nat.zero_add]
            split
            · rename_i he
              rw [he, hvc]
            · rfl
      have hcd := hcond w hI.bel
      rw [hI.frame, ← wanted_congr hslots]
      by_cases hwn : Region.wanted oj (yielded ops (putsL (os.take j) 0 vs a0).tmps) = true
      · rw [if_pos hwn] at hcd ⊢
        refine .inl ?_
        unfold Oper.wp
        rw [← execOp_congr oj (fun cs b => Region.noSelect_spec hF.sel j oj cs b hoj) (eval_congr hslots), hcd, ← hI.frame]
        exact hstep
      · rw [if_neg hwn] at hcd ⊢
        rw [hcd, ← hI.frame]
        exact hstep
    · have hjk : j = nq + k := by
        have h1 : ¬ j < nq + k := fun h => by rw [(hI.late j (by omega) hjs).2 h] at hjun'; cases hjun'
        refine Nat.le_antisymm (Nat.le_of_not_lt fun h => ?_) (by omega)
        have h2 := reachF_listed hI.shut 8 oj hall (hF.chain j oj (nq + k) (by omega) h hoj)
        have := (hI.late (nq + k) (by omega) (by omega)).1 h2
        omega
      subst hjk
      have htl := hI.tl
      have hd : l.drop (nq + k) = oj :: l.drop (nq + k + 1) := by
        have h1 : l[nq + k]? = some oj := (hl _).trans hoj
        obtain ⟨hlt, he⟩ := List.getElem?_eq_some_iff.1 h1
        rw [List.drop_eq_getElem_cons hlt, he]
      rw [hd] at htl
      have htl2 : oj.dst = none ∧ Region.wanted oj (yielded ops (putsL os 0 vs a0).tmps) = true ∧ ∃ w', (execOp (putsL os 0 vs a0).eval oj).run P w = .ok .skip w' ∧ Bel w0 w' ∧ TailP P md ops nq w0 Q (nq + k + 1) (l.drop (nq + k + 1)) (putsL os 0 vs a0) w' := by
        rcases htl with h | ⟨hlb, hwp⟩
        · exact h
        · exfalso
          have hlb' := hlb
          simp only [lineB, Bool.and_eq_true] at hlb
          obtain ⟨o2, ho2, hp⟩ := opAt_of hlb.1
          rw [hoj] at ho2
          cases ho2
          have hall' : ∀ i, i < nq → listed.getD i false = true := fun i hi => reachF_listed hI.shut 8 oj hall (List.all_eq_true.1 hp i (List.mem_range.2 hi))
          refine hln ⟨?_, hlb', oj, _, hd, hwp⟩
          refine Decidable.byContradiction fun hc => ?_
          obtain ⟨i0, hi0, hun, -⟩ := cnt_pos (f := fun i => listed.getD i false) (n := nq) hc
          rw [hall' i0 hi0] at hun
          cases hun
      obtain ⟨hdst, hwn, w', hrun, hb', htl'⟩ := htl2
      have hslots : ∀ t ∈ oj.looksAt ops, (putsL os 0 vs a0).tmps[t]? = (putsM os 0 (fun i => listed.getD i false) vs a0).tmps[t]? := by
        intro t ht
        rw [← putsM_all os 0 (fun _ => true) vs a0 (fun _ _ _ => rfl)]
        refine slot_congr os 0 t _ _ vs a0 a0 rfl rfl fun i o hi hdst => ?_
        have hin : i < nq := by have := (List.getElem?_eq_some_iff.1 hi).1; omega
        rw [Nat.zero_add]
        exact (reachF_listed hI.shut 8 oj hall (hF.looks (nq + k) oj i o t (by omega) hoj hin ((hos i hin).symm.trans hi) hdst ht)).symm
      rw [wanted_congr hslots] at hwn
      rw [execOp_congr oj (fun cs b => Region.noSelect_spec hF.sel (nq + k) oj cs b hoj) (eval_congr hslots)] at hrun
      rw [hI.frame, if_pos hwn]
      refine .inl ?_
      unfold Oper.wp
      rw [hrun]
      simp only [Oper.upon]
      rw [hdst]
      refine ih (k + 1) _ _ _ ?_ (by omega) ⟨by rw [Array.size_setIfInBounds]; exact hI.size, hI.shut.add hj, hb', fun i hi hiH => ?_, fun i hi his => ?_, ?_, by rw [← Nat.add_assoc]; exact htl'⟩
      · have := (cnt_set (f := fun i => listed.getD i false) (g := fun i => (listed.setIfInBounds (nq + k) true).getD i false) (j := nq + k) hjun' (by simp only [hset, if_true]) (fun k hk => by simp only [hset]; rw [if_neg hk]) (n := nq)).1 (by omega)
        omega
      · rw [hset]
        split
        · rfl
        · exact hI.main i hi hiH
      · rw [hset]
        by_cases h : i = nq + k
        · rw [if_pos h]
          exact ⟨fun _ => by omega, fun _ => rfl⟩
        · rw [if_neg h, hI.late i hi his]
          omega
      · exact putsM_lt os 0 _ _ vs a0 fun i _ hi => by rw [hset, if_neg (by omega)]
theorem flow_anyT {Q : Exit → Act → World → Prop} {T : Act → Facts → Prop} {nq : Nat} {H N : List Nat} {D : List (List Nat)} {os : List Oper} {ss : List Spec} {a0 : Act} {l : List Oper} (hl : ∀ j : Nat, l[j]? = ops[j]?) (hF : FormT md ops nq H D) (hH : ∀ j ∈ H, ∃ c, ss[j]? = some (.is c)) (hN : ∀ j ∈ N, New P ops ss j) (hos : ∀ k, k < nq → os[k]? = ops[k]?) (hol : os.length = nq) (hsl : ss.length = nq)
    (hst : Steady ss) (hfl : flowT P ops w0 T H D os ss 0 a0 []) (hT : ∀ a F, T a F → ∀ w, Bel w0 w → All F w → Apart N F → TailP P md ops nq w0 Q nq (l.drop nq) a w) :
    ∀ (c : Nat) (listed : Array Bool) (a : Act) (w : World), cnt (fun i => listed.getD i false) nq = c → InvN md ops nq N os ss w0 a0 listed a w → wpAny P md ops Q (c + (ops.size - nq)) listed a w := by
  have hfin : ∀ (listed : Array Bool) (a : Act) (w : World), InvN md ops nq N os ss w0 a0 listed a w → (∀ i, i < nq → listed.getD i false = false → i ∈ H) → wpAny P md ops Q (cnt (fun i => listed.getD i false) nq + (ops.size - nq)) listed a w := by
    intro listed a w hI hall
    obtain ⟨vs, hfit, hfr, hok, hap⟩ := hI.vals
    have hlst : ∀ k Φ, ss[k]? = some (Spec.has Φ) → k < nq ∧ listed.getD k false = true := fun k Φ hk => by
      have hkn : k < nq := by have := (List.getElem?_eq_some_iff.1 hk).1; omega
      refine ⟨hkn, ?_⟩
      cases h : listed.getD k false with
      | true => rfl
      | false =>
        obtain ⟨c, hc⟩ := hH k (hall k hkn h)
        rw [hk] at hc
        cases hc
    have hend := flowT_end ss D os 0 a0 [] vs (by omega) (by rw [hF.len]; omega) hfit hfl
    have htl := hT _ _ hend w hI.bel (all_of ss 0 vs [] w trivial fun k Φ hk => by
      rw [Nat.zero_add]
      obtain ⟨h1, h2⟩ := hlst k Φ hk
      exact hok k (.has Φ) h1 h2 hk) (apart_of ss 0 vs [] (fun _ _ _ h => by cases h) (fun j k h1 h2 h3 h4 h5 => by
      obtain ⟨_, Φ, -, -, h6, -⟩ := hN j h1
      obtain ⟨_, Ψ, -, -, h7, -⟩ := hN k h2
      exact hap j k h1 h2 h3 (hlst j Φ h6).2 (hlst k Ψ h7).2) trivial)
    refine tail_any hF hl hos hol hsl (fun j o hj ho => ?_) _ 0 listed a w rfl (by have := hF.le; omega) ⟨hI.size, hI.shut, hI.bel, fun j hj hjH => ?_, fun j hj _ => ?_, hfr, htl⟩
    · obtain ⟨c, hc⟩ := hH j hj
      have hjn := hF.hlt j hj
      obtain ⟨dj, hdj⟩ : ∃ d, D[j]? = some d := ⟨_, List.getElem?_eq_getElem (by rw [hF.len]; omega)⟩
      refine ⟨c, by have := hfit j c hc; rwa [Nat.zero_add] at this, fun w' hw' => ?_⟩
      exact flowT_at D os ss 0 a0 [] vs hfit hfl j o c dj ((hos j hjn).trans ho) hc hdj (by rwa [Nat.zero_add]) w hI.bel (known_of (ss.take j) 0 vs [] dj w trivial fun k Φ hk _ => by
        rw [Nat.zero_add]
        have hk' : ss[k]? = some (Spec.has Φ) := by
          rw [List.getElem?_take] at hk
          split at hk
          · exact hk
          · cases hk
        obtain ⟨h1, h2⟩ := hlst k Φ hk'
        exact hok k (.has Φ) h1 h2 hk') w' hw'
    · cases h : listed.getD j false with
      | true => rfl
      | false => exact absurd (hall j hj h) hjH
    · rw [hI.late j hj]
      exact ⟨fun h => absurd h (by decide), fun h => (by omega : False).elim⟩
  intro c
  induction c with
  | zero =>
    intro listed a w hc hI
    have := hfin listed a w hI (fun i h1 h2 => by rw [cnt_zero hc i h1] at h2; cases h2)
    rwa [hc] at this
  | succ c ih =>
    intro listed a w hc hI
    obtain ⟨i0, hi0, hun, hlow⟩ := cnt_pos (f := fun i => listed.getD i false) (n := nq) (by omega)
    have untrue : ∀ {i : Nat}, i < ops.size → listed.getD i false = false → listed.getD i true = false := fun {i} hi h => by
      have : i < listed.size := by rw [hI.size]; exact hi
      simp [this] at h ⊢
      exact h
    have hready : i0 ∈ Region.ready md ops listed := by
      obtain ⟨o, ho⟩ := hF.op i0 hi0
      exact mem_ready.2 ⟨untrue (by have := hF.le; omega) hun, o, ho, fun e he hb => hlow e.on (hF.back i0 o hi0 ho e he hb)⟩
    have hcase : (∀ i, i < nq → listed.getD i false = false → i ∈ H) ∨ ∃ i1, i1 < nq ∧ listed.getD i1 false = false ∧ i1 ∉ H := by
      by_cases h : ∃ i1, i1 < nq ∧ listed.getD i1 false = false ∧ i1 ∉ H
      · exact .inr h
      · exact .inl fun i h1 h2 => Decidable.byContradiction fun h3 => h ⟨i, h1, h2, h3⟩
    have hmain : ∀ j, j ∈ Region.ready md ops listed → j < nq → wpOp P ops Q j (wpAny P md ops Q (c + (ops.size - nq)) (listed.setIfInBounds j true)) a w := by
      intro j hj hjn
      obtain ⟨hjun, oj, hoj, hall⟩ := mem_ready.1 hj
      have hjun' : listed.getD j false = false := by
        have : j < listed.size := by rw [hI.size]; have := hF.le; omega
        simp [this] at hjun ⊢
        exact hjun
      obtain ⟨vs, hfit, rfl, hok, hap⟩ := hI.vals
      obtain ⟨sj, hsj⟩ : ∃ s, ss[j]? = some s := ⟨_, List.getElem?_eq_getElem (by omega)⟩
      obtain ⟨dj, hdj⟩ : ∃ d, D[j]? = some d := ⟨_, List.getElem?_eq_getElem (by rw [hF.len]; omega)⟩
      have hdj' : D.getD j [] = dj := by rw [List.getD_eq_getElem?_getD, hdj]; rfl
      have hoj' : os[j]? = some oj := (hos j hjn).trans hoj
      have hlist : ∀ k, k ∈ dj → k < j ∧ listed.getD k false = true := fun k hk => by
        have h1 := hF.dep j oj hjn hoj k (by rw [hdj']; exact hk)
        exact ⟨h1.1, reachF_listed hI.shut 8 oj hall h1.2⟩
      have hvc := flow_at D os ss 0 a0 [] vs hfit (flowT_flow _ _ _ _ _ _ hfl) j oj sj dj hoj' hsj hdj w hI.bel (known_of (ss.take j) 0 vs [] dj w trivial fun k Φ hk hkd => by
        rw [Nat.zero_add] at hkd ⊢
        obtain ⟨h1, h2⟩ := hlist k hkd
        rw [List.getElem?_take, if_pos h1] at hk
        exact hok k (.has Φ) (by omega) h2 hk)
      have hslots : ∀ t ∈ oj.looksAt ops, (putsL (os.take j) 0 vs a0).tmps[t]? = (putsM os 0 (fun i => listed.getD i false) vs a0).tmps[t]? := by
        intro t ht
        rw [putsL_take]
        refine slot_congr os 0 t _ _ vs a0 a0 rfl rfl fun k o hk hdst => ?_
        have hkn : k < nq := by have := (List.getElem?_eq_some_iff.1 hk).1; omega
        have h1 := hF.reads j oj k o hjn hoj hkn ((hos k hkn).symm.trans hk) t hdst ht
        rw [hdj'] at h1
        obtain ⟨h2, h3⟩ := hlist k h1
        rw [Nat.zero_add, h3]
        simp [h2]
      have hset : ∀ k, (listed.setIfInBounds j true).getD k false = if k = 0 + j then true else listed.getD k false := fun k => by
        rw [Nat.zero_add]
        by_cases hk : k = j
        · subst hk
          have : k < listed.size := by rw [hI.size]; have := hF.le; omega
          simp [this]
        · rw [if_neg hk, getD_set_ne false (Ne.symm hk)]
      have hstep : ∀ u w', Bel w w' → sj.ok u w' → (j ∈ N → ∃ X, u = .pointer (some ⟨X, 0, none⟩) ∧ w.heap.size ≤ X) → wpAny P md ops Q (c + (ops.size - nq)) (listed.setIfInBounds j true) ((putsM os 0 (fun i => listed.getD i false) vs a0).put oj.dst u) w' := by
        intro u w' hw' hu hnew
        have hold : ∀ k, k ∈ N → listed.getD k false = true → j ∈ N → vs k ≠ u := fun k hk hkl hjN he => by
          obtain ⟨X, h1, h2⟩ := hnew hjN
          obtain ⟨o, Φ, -, -, h5, h6⟩ := hN k hk
          have hkn : k < nq := by have := (List.getElem?_eq_some_iff.1 h5).1; omega
          obtain ⟨Y, h7, h8⟩ := h6 _ _ (hok k _ hkn hkl h5)
          rw [h7, h1] at he
          simp only [Value.pointer.injEq, Option.some.injEq, Addr.mk.injEq, and_true] at he
          omega
        refine ih _ _ _ ?_ ⟨by rw [Array.size_setIfInBounds]; exact hI.size, hI.shut.add hj, hI.bel.trans hw', fun k hk => ?_, fun k => if k = 0 + j then u else vs k, fun k c' hk => ?_, ?_, fun i s' hi hl hs' => ?_, fun i k hi hk hne hli hlk => ?_⟩
        · have := (cnt_set (f := fun i => listed.getD i false) (g := fun i => (listed.setIfInBounds j true).getD i false) (j := j) hjun' (by simp only [hset]; rw [if_pos (by omega)]) (fun k hk => by simp only [hset]; rw [if_neg (by omega)]) (n := nq)).2 hjn
          omega
        · rw [hset, if_neg (by omega)]; exact hI.late k hk
        · dsimp only
          rw [Nat.zero_add, Nat.zero_add]
          split
          · rename_i he
            rw [he, hsj] at hk
            simp only [Option.some.injEq] at hk
            subst hk
            exact hu
          · have := hfit k c' hk; rwa [Nat.zero_add] at this
        · rw [putsM_set os 0 j _ vs a0 oj u hoj' (by rw [Nat.zero_add]; exact hjun') (fun k o' hk hne t ht hc => by
            have hkn : k < nq := by have := (List.getElem?_eq_some_iff.1 hk).1; omega
            exact hF.once k o' j oj hkn ((hos k hkn).symm.trans hk) hjn hoj (Ne.symm hne) t ht hc)]
          congr 1
          funext k
          rw [hset]
        · rw [hset, Nat.zero_add] at hl
          dsimp only
          rw [Nat.zero_add]
          split
          · rename_i he
            rw [he, hsj] at hs'
            simp only [Option.some.injEq] at hs'
            subst hs'
            exact hu
          · rename_i he
            rw [if_neg he] at hl
            exact steady_at hst hs' _ _ _ (hok i s' hi hl hs') hw'
        · rw [hset, Nat.zero_add] at hli hlk
          dsimp only
          rw [Nat.zero_add]
          by_cases h1 : i = j
          · have h2 : k ≠ j := fun h => hne (h1.trans h.symm)
            rw [if_pos h1, if_neg h2]
            rw [if_neg h2] at hlk
            exact (hold k hk hlk (h1 ▸ hi)).symm
          · rw [if_neg h1]
            rw [if_neg h1] at hli
            by_cases h2 : k = j
            · rw [if_pos h2]
              exact hold i hi hli (h2 ▸ hk)
            · rw [if_neg h2]
              rw [if_neg h2] at hlk
              exact hap i k hi hk hne hli hlk
      unfold wpOp
      rw [hoj]
      dsimp only
      unfold VC at hvc
      rw [wanted_congr hslots] at hvc
      by_cases hwn : Region.wanted oj (yielded ops (putsM os 0 (fun i => listed.getD i false) vs a0).tmps) = true
      · rw [if_pos hwn] at hvc ⊢
        refine .inl ?_
        have hfr : j ∈ N → freshUpon w ((execOp (putsM os 0 (fun i => listed.getD i false) vs a0).eval oj).run P w) := fun hjN => by
          obtain ⟨o, Φ, h1, h2, -, -⟩ := hN j hjN
          rw [hoj] at h1
          cases h1
          exact h2 _ _
        unfold gives at hvc
        unfold Oper.wp
        rw [execOp_congr oj (fun cs b => Region.noSelect_spec hF.sel j oj cs b hoj) (eval_congr hslots)] at hvc
        generalize (execOp (putsM os 0 (fun i => listed.getD i false) vs a0).eval oj).run P w = r at hvc hfr ⊢
        cases r with
        | halt x w' => exact hvc.elim
        | ok x w' =>
          cases x <;> simp only [givesUpon] at hvc <;> simp only [Oper.upon]
          case value u => exact hstep u w' hvc.1 hvc.2 hfr
          case skip => exact hstep undef w' hvc.1 hvc.2 (fun h => (hfr h).elim)
          case enter f args =>
            refine hvc.mono fun e w'' he => ?_
            obtain ⟨u, rfl, h1, h2⟩ := he
            exact hstep u w'' h1 h2 (fun h => (hfr h).elim)
      · rw [if_neg hwn] at hvc ⊢
        refine hstep undef w (Bel.refl w) hvc (fun hjN => ?_)
        obtain ⟨o, Φ, -, -, h5, h6⟩ := hN j hjN
        rw [hsj] at h5
        cases h5
        obtain ⟨X, h7, -⟩ := h6 _ _ hvc
        cases h7
    rcases hcase with hall | ⟨i1, hi1, hun1, hne1⟩
    · have := hfin listed a w hI hall
      rwa [hc] at this
    · rw [Nat.succ_add]
      refine ⟨fun h => (by rw [h] at hready; cases hready), fun j hj => ?_⟩
      obtain ⟨-, oj, hoj, hall⟩ := mem_ready.1 hj
      have hjn : j < nq := by
        by_cases h : j < nq
        · exact h
        · have h1 := reachF_listed hI.shut 8 oj hall (hF.tail j oj i1 (by omega) hoj hi1 hne1)
          rw [h1] at hun1
          cases hun1
      exact hmain j hj hjn
/-- A region that draws its order, with new boxes N, holes H and its last ones told. -/
theorem region_flowT {id : Nat} {Q : Exit → Act → World → Prop} {a : Act} {w : World} {l : List Oper} (nq : Nat) (H N : List Nat) (D : List (List Nat)) (ss : List Spec) (hm : P.follows .mixedOrders = true) (hB : flowTB .any l.toArray nq H D = true) (hsl : ss.length = nq) (hH : ∀ j ∈ H, ∃ c, ss[j]? = some (.is c)) (hN : ∀ j ∈ N, New P l.toArray ss j) (hst : Steady ss)
    (h : flowT P l.toArray w (fun a' F => ∀ w', Bel w w' → All F w' → Apart N F → TailP P .any l.toArray nq w Q nq (l.drop nq) a' w') H D (l.take nq) ss 0 a []) : (Code.region id l.toArray true).wp P Q a w := by
  have hF := formT_of hB
  have hle : nq ≤ l.length := by simpa using hF.le
  refine wp_region_any hm ?_
  have hcnt : cnt (fun i => (Array.replicate l.toArray.size false).getD i false) nq = nq := by
    have : ∀ n, cnt (fun i => (Array.replicate l.toArray.size false).getD i false) n = n := fun n => by
      induction n with
      | zero => rfl
      | succ n ih => simp only [cnt]; rw [ih, if_neg (by rw [getD_replicate_false]; simp)]
    exact this nq
  have h1 := flow_anyT (Q := Q) (l := l) (fun j => by simp) (os := l.take nq) hF hH hN (fun k hk => by rw [List.getElem?_take, if_pos hk]; simp) (by rw [List.length_take]; omega) hsl hst h
    (fun a' F hT w' hw' hk hap => hT w' hw' hk hap)
    nq (Array.replicate l.toArray.size false) a { w with drawn := w.drawn + 1 } hcnt
    ⟨by simp, fun j o _ hl => (by rw [getD_replicate_false] at hl; cases hl), (Bel.refl w).drew, fun j _ => getD_replicate_false _ _, fun k => match ss[k]? with | some (.is c) => c | _ => undef, fun k c hk => by rw [Nat.zero_add]; simp only [hk],
      (putsM_none _ _ _ _ _ (fun k _ => getD_replicate_false _ _)).symm, fun i s _ hl => (by rw [getD_replicate_false] at hl; cases hl), fun j k _ _ _ hl => (by rw [getD_replicate_false] at hl; cases hl)⟩
  rw [show nq + (l.toArray.size - nq) = l.toArray.size by simp; omega] at h1
  exact h1
variable {T : Act → Facts → Prop} {H : List Nat}
theorem hV {ds : List Nat} {D : List (List Nat)} {o : Oper} {os : List Oper} {c : Value} {ss : List Spec} {i : Nat} {a : Act} {F : Facts} (hn : H.contains i = false) (hw : Region.wanted o (yielded ops a.tmps) = true) (h1 : ∀ w, Bel w0 w → Known F ds w → (execOp a.eval o).run P w = .ok (.value c) w)
    (h2 : flowT P ops w0 T H D os ss (i + 1) (a.put o.dst c) F) : flowT P ops w0 T H (ds :: D) (o :: os) (.is c :: ss) i a F := ⟨by rw [hn]; exact fun w hb hk => want hw (gives_val (h1 w hb hk)), h2⟩
theorem hR {ds : List Nat} {D : List (List Nat)} {o : Oper} {os : List Oper} {c : Value} {ss : List Spec} {i : Nat} {a : Act} {F : Facts} (hn : H.contains i = true) (hw : Region.wanted o (yielded ops a.tmps) = true) (h1 : ∀ w', Bel w0 w' → Known F ds w' → ∀ w, Bel w0 w → (execOp a.eval o).run P w = .ok (.value c) w)
    (h2 : flowT P ops w0 T H D os ss (i + 1) (a.put o.dst c) F) : flowT P ops w0 T H (ds :: D) (o :: os) (.is c :: ss) i a F := ⟨by rw [hn]; exact fun w' hb hk w hb' => want hw (h1 w' hb hk w hb'), h2⟩
theorem hC {f : FuncId} {args : Array Value} {ds : List Nat} {D : List (List Nat)} {o : Oper} {os : List Oper} {c : Value} {ss : List Spec} {i : Nat} {a : Act} {F : Facts} (hn : H.contains i = false) (hw : Region.wanted o (yielded ops a.tmps) = true) (h1 : ∀ w, Bel w0 w → Known F ds w → Calls P f args w (Makes w fun v _ => v = c)) (he : ∀ w, (execOp a.eval o).run P w = .ok (.enter f args) w)
    (h2 : flowT P ops w0 T H D os ss (i + 1) (a.put o.dst c) F) : flowT P ops w0 T H (ds :: D) (o :: os) (.is c :: ss) i a F := ⟨by rw [hn]; exact fun w hb hk => want hw (gives_call (he w) (h1 w hb hk)), h2⟩
theorem flowT_has {ds : List Nat} {D : List (List Nat)} {o : Oper} {os : List Oper} {Φ : Value → World → Prop} {ss : List Spec} {i : Nat} {a : Act} {F : Facts} (h1 : ∀ w, Bel w0 w → Known F ds w → if Region.wanted o (yielded ops a.tmps) = true then gives P o a w Φ else Φ undef w)
    (h2 : ∀ v, flowT P ops w0 T H D os ss (i + 1) (a.put o.dst v) ((i, v, Φ) :: F)) : flowT P ops w0 T H (ds :: D) (o :: os) (.has Φ :: ss) i a F := ⟨h1, h2⟩
theorem hH {f : FuncId} {args : Array Value} {ds : List Nat} {D : List (List Nat)} {o : Oper} {os : List Oper} {Φ : Value → World → Prop} {ss : List Spec} {i : Nat} {a : Act} {F : Facts} (hw : Region.wanted o (yielded ops a.tmps) = true) (h1 : ∀ w, Bel w0 w → Known F ds w → Calls P f args w (Makes w Φ)) (he : ∀ w, (execOp a.eval o).run P w = .ok (.enter f args) w)
    (h2 : ∀ v, flowT P ops w0 T H D os ss (i + 1) (a.put o.dst v) ((i, v, Φ) :: F)) : flowT P ops w0 T H (ds :: D) (o :: os) (.has Φ :: ss) i a F := flowT_has (fun w hb hk => want hw (gives_call (he w) (h1 w hb hk))) h2
variable {nq : Nat}
theorem tail_store {Q : Exit → Act → World → Prop} {m : Nat} {o : Oper} {os : List Oper} {a : Act} {w : World} (w' : World) (hd : o.dst = none) (hw : Region.wanted o (yielded ops a.tmps) = true) (hr : (execOp a.eval o).run P w = .ok .skip w') (hb : Bel w0 w') (h : TailP P md ops nq w0 Q (m + 1) os a w') : TailP P md ops nq w0 Q m (o :: os) a w := .inl ⟨hd, hw, w', hr, hb, h⟩
theorem tail_line {Q : Exit → Act → World → Prop} {m : Nat} {o : Oper} {os : List Oper} {a : Act} {w : World} (hl : lineB md ops nq m = true) (h : wpList P ops Q (o :: os) a w) : TailP P md ops nq w0 Q m (o :: os) a w := .inr ⟨hl, h⟩
end Go.Proofs.YtafmfnpjhhaikaaGreatDoor

/-
  gessolaw06.wakes (printed by gen_aub.py).
-/
namespace Go.Proofs.YtafmfnpjhhaikaaGreatDoor
open Go.RowKit Go.Shelf

end Go.Proofs.YtafmfnpjhhaikaaGreatDoor

/-
  Points as they came in; gessolaw06.Fair.
-/
namespace Go.Proofs.YtafmfnpjhhaikaaGreatDoor
open Go.RowKit Go.Shelf

theorem PS.split {k : Nat} {w : World} {c1 c2 c3 c4 c5 c6 : Value} {x y : Rat} (h : PS k w (.agg #[c1, c2, c3, c4, c5, c6]) x y) : RS k w (.agg #[c1, c2, c3]) x ∧ RS k w (.agg #[c4, c5, c6]) y := by
  obtain ⟨s1, u1, d1, s2, u2, d2, h0, h1, h2⟩ := h
  simp only [Value.agg.injEq, Array.mk.injEq, List.cons.injEq, and_true] at h0
  obtain ⟨rfl, rfl, rfl, rfl, rfl, rfl⟩ := h0
  exact ⟨h1, h2⟩
/-- A slice made of points as they came in. -/
def RpSl (l : List Rp) (v : Value) (w : World) : Prop := ∃ G, v = .slice (some ⟨G, 0, none⟩) l.length l.length ∧ ∀ (i : Nat) (x : Rp), l[i]? = some x → ∀ (r : Nat) (u : Value), x.row[r]? = some u → w.cell? ⟨G, i * 6 + r, none⟩ = some u
theorem RpSl.bel {l : List Rp} {v : Value} {w w' : World} (h : RpSl l v w) (hb : Bel w w') : RpSl l v w' := by
  obtain ⟨G, h1, h2⟩ := h
  exact ⟨G, h1, fun i x hx r u hu => hb.cell (h2 i x hx r u hu)⟩
theorem rows_at : ∀ (l : List Rp) (i : Nat) (x : Rp) (r : Nat) (u : Value), l[i]? = some x → x.row[r]? = some u → (l.flatMap Rp.row)[i * 6 + r]? = some u
  | [], _, _, _, _, h, _ => by simp at h
  | y :: l, 0, x, r, u, h, hu => by
    simp only [List.getElem?_cons_zero, Option.some.injEq] at h
    subst h
    rw [List.flatMap_cons, Nat.zero_mul, Nat.zero_add, List.getElem?_append_left (List.getElem?_eq_some_iff.1 hu).1]
    exact hu
  | y :: l, i + 1, x, r, u, h, hu => by
    have hl : y.row.length = 6 := rfl
    rw [List.flatMap_cons, List.getElem?_append_right (by omega), hl, show (i + 1) * 6 + r - 6 = i * 6 + r by omega]
    exact rows_at l i x r u (by simpa using h) hu
theorem au_rof {p : Int} {q : Nat} (hp1 : -9223372036854775808 ≤ p) (hp2 : p < 9223372036854775808) (hq : q < 9223372036854775808) (h0 : q ≠ 0) (w : World) :
    Calls Tryz.prog 45 #[.int .i64 p, .int .i64 (q : Int)] w (Makes w fun v w' => RN 1 w' v (mkRat p q)) := by
  refine (mk_rof hp1 hp2 (by omega) (by omega) (by omega) w).mono fun _ _ h => h.imp fun _ h => ?_
  rw [if_neg (by omega), Int.natAbs_natCast] at h
  exact ⟨h, sz_mk (by unfold B64; omega) (by unfold B64; omega) h0⟩
theorem RpSl.new (l : List Rp) (w : World) : RpSl l (.slice (some ⟨w.heap.size, 0, none⟩) l.length l.length) (w.alloc (.cells (l.flatMap Rp.row).toArray 28)) :=
  ⟨_, rfl, fun i x hx r u hu => by
    rw [heap_cell (heap_alloc_new w _), List.getElem?_toArray]
    exact rows_at l i x r u hx hu⟩
theorem au_fair {l : List Rp} {v : Value} {w : World} {b : Bool} (h : RpSl l v w) (hl : l.length < 1000000) (hf : l.all (Rp.ok 6) = b) : Calls Tryz.prog 12 #[v] w (Makes w fun u _ => u = .bool b) := by
  obtain ⟨G, rfl, hr⟩ := h
  rw [← hf]
  exact fair_any G l.length l w hr (Nat.le_refl _) hl
end Go.Proofs.YtafmfnpjhhaikaaGreatDoor
