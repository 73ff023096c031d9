/-
  A region that draws its order, whose operations read what was there and make new memory: what each one yields is told ahead, and one walk serves every order.
-/
import Derived.Test.YtafmfnpjhhaikaaGreatDoorZaa
import Derived.StillTail
import Derived.Test.YtafmfnpjhhaikaaGreatDoorZag
namespace Go.Proofs.YtafmfnpjhhaikaaGreatDoor
open Go
variable {P : Program} {ops : Array Oper} {md : Region.Mode} {w0 : World}
/-- What an operation yields: a value, or one of which something is known. -/
inductive Spec where
  | is (c : Value)
  | has (Φ : Value → World → Prop)
def Spec.ok : Spec → Value → World → Prop
  | .is c, v, _ => v = c
  | .has Φ, v, w => Φ v w
def givesUpon (P : Program) (Φ : Value → World → Prop) (w : World) : Result Next → Prop
  | .ok (.value v) w' => Bel w w' ∧ Φ v w'
  | .ok .skip w' => Bel w w' ∧ Φ undef w'
  | .ok (.enter f args) w' => Calls P f args w' fun e w'' => ∃ v, e = .returned v ∧ Bel w w'' ∧ Φ v w''
  | _ => False
def gives (P : Program) (o : Oper) (a : Act) (w : World) (Φ : Value → World → Prop) : Prop := givesUpon P Φ w ((execOp a.eval o).run P w)
abbrev Facts := List (Nat × Value × (Value → World → Prop))
def Known : Facts → List Nat → World → Prop
  | [], _, _ => True
  | (i, v, Φ) :: F, ds, w => (match ds.contains i with | true => Φ v w | false => True) ∧ Known F ds w
def All : Facts → World → Prop
  | [], _ => True
  | (_, v, Φ) :: F, w => Φ v w ∧ All F w
def flow (P : Program) (ops : Array Oper) (w0 : World) (T : Act → (World → Prop) → Prop) : List (List Nat) → List Oper → List Spec → Nat → Act → Facts → Prop
  | ds :: D, o :: os, .is c :: ss, i, a, F => (∀ w, Bel w0 w → Known F ds w → if Region.wanted o (yielded ops a.tmps) = true then gives P o a w (fun v _ => v = c) else undef = c) ∧ flow P ops w0 T D os ss (i + 1) (a.put o.dst c) F
  | ds :: D, o :: os, .has Φ :: ss, i, a, F => (∀ w, Bel w0 w → Known F ds w → if Region.wanted o (yielded ops a.tmps) = true then gives P o a w Φ else Φ undef w) ∧ ∀ v, flow P ops w0 T D os ss (i + 1) (a.put o.dst v) ((i, v, Φ) :: F)
  | _, _, _, _, a, F => T a (All F)
def Steady : List Spec → Prop
  | [] => True
  | .is _ :: ss => Steady ss
  | .has Φ :: ss => (∀ v w w', Φ v w → Bel w w' → Φ v w') ∧ Steady ss
theorem steady_at : ∀ {ss : List Spec} {i : Nat} {s : Spec}, Steady ss → ss[i]? = some s → ∀ v w w', s.ok v w → Bel w w' → s.ok v w'
  | .is c :: ss, 0, s, _, hs => by simp at hs; subst hs; exact fun v w w' h _ => h
  | .has Φ :: ss, 0, s, h, hs => by simp at hs; subst hs; exact h.1
  | .is c :: ss, i + 1, s, h, hs => steady_at (ss := ss) (i := i) h (by simpa using hs)
  | .has Φ :: ss, i + 1, s, h, hs => steady_at (ss := ss) (i := i) h.2 (by simpa using hs)
  | [], i, s, _, hs => by simp at hs
/-! ### Frames -/
def putsM : List Oper → Nat → (Nat → Bool) → (Nat → Value) → Act → Act
  | [], _, _, _, a => a
  | o :: os, i, f, vs, a => putsM os (i + 1) f vs (if f i = true then a.put o.dst (vs i) else a)
def putsL : List Oper → Nat → (Nat → Value) → Act → Act
  | [], _, _, a => a
  | o :: os, i, vs, a => putsL os (i + 1) vs (a.put o.dst (vs i))
theorem putsM_all : ∀ (os : List Oper) (i : Nat) (f : Nat → Bool) (vs : Nat → Value) (a : Act), (∀ k, i ≤ k → k < i + os.length → f k = true) → putsM os i f vs a = putsL os i vs a
  | [], _, _, _, _, _ => rfl
  | o :: os, i, f, vs, a, h => by
    simp only [putsM, putsL]
    rw [if_pos (h i (Nat.le_refl _) (by simp)), putsM_all os (i + 1) f vs _ (fun k h1 h2 => h k (by omega) (by simp; omega))]
theorem putsM_none : ∀ (os : List Oper) (i : Nat) (f : Nat → Bool) (vs : Nat → Value) (a : Act), (∀ k, i ≤ k → f k = false) → putsM os i f vs a = a
  | [], _, _, _, _, _ => rfl
  | o :: os, i, f, vs, a, h => by
    simp only [putsM]
    rw [if_neg (by rw [h i (Nat.le_refl _)]; simp), putsM_none os (i + 1) f vs _ (fun k h1 => h k (by omega))]
theorem putsL_take : ∀ (os : List Oper) (i m : Nat) (vs : Nat → Value) (a : Act), putsL (os.take m) i vs a = putsM os i (fun k => decide (k < i + m)) vs a
  | [], _, m, _, _ => by simp [putsL, putsM]
  | o :: os, i, 0, vs, a => by rw [List.take_zero, putsM_none _ _ _ _ _ (fun k h => by simp; omega)]; rfl
  | o :: os, i, m + 1, vs, a => by
    rw [List.take_succ_cons]
    simp only [putsM, putsL]
    rw [if_pos (by simp), putsL_take os (i + 1) m vs, show i + 1 + m = i + (m + 1) by omega]
theorem putsM_congr : ∀ (os : List Oper) (i : Nat) (f g : Nat → Bool) (vs us : Nat → Value) (a : Act), (∀ k, i ≤ k → f k = g k ∧ vs k = us k) → putsM os i f vs a = putsM os i g us a
  | [], _, _, _, _, _, _, _ => rfl
  | o :: os, i, f, g, vs, us, a, h => by
    simp only [putsM]
    obtain ⟨h1, h2⟩ := h i (Nat.le_refl _)
    rw [h1, h2, putsM_congr os (i + 1) f g vs us _ (fun k hk => h k (by omega))]
theorem putsM_put : ∀ (os : List Oper) (i : Nat) (f : Nat → Bool) (vs : Nat → Value) (a : Act) (d : Option Tmp) (u : Value), (∀ o ∈ os, ∀ t, d = some t → o.dst ≠ some t) → putsM os i f vs (a.put d u) = (putsM os i f vs a).put d u
  | [], _, _, _, _, _, _, _ => rfl
  | o :: os, i, f, vs, a, d, u, h => by
    simp only [putsM]
    have h1 := putsM_put os (i + 1) f vs (if f i = true then a.put o.dst (vs i) else a) d u (fun o' ho' => h o' (List.mem_cons_of_mem _ ho'))
    rw [← h1]
    congr 1
    split
    · exact Act.put_comm a u (vs i) (fun t ht => h o List.mem_cons_self t ht)
    · rfl
theorem putsM_set : ∀ (os : List Oper) (i j : Nat) (f : Nat → Bool) (vs : Nat → Value) (a : Act) (o : Oper) (u : Value), os[j]? = some o → f (i + j) = false → (∀ k o', os[k]? = some o' → k ≠ j → ∀ t, o.dst = some t → o'.dst ≠ some t) →
    (putsM os i f vs a).put o.dst u = putsM os i (fun k => if k = i + j then true else f k) (fun k => if k = i + j then u else vs k) a
  | [], _, _, _, _, _, _, _, h, _, _ => by simp at h
  | o' :: os, i, 0, f, vs, a, o, u, h, hf, hd => by
    simp only [List.getElem?_cons_zero, Option.some.injEq] at h
    subst h
    simp only [putsM, Nat.add_zero, if_true]
    rw [Nat.add_zero] at hf
    rw [if_neg (by rw [hf]; simp), putsM_congr os (i + 1) (fun k => if k = i then true else f k) f (fun k => if k = i then u else vs k) vs _ (fun k hk => ⟨if_neg (by omega), if_neg (by omega)⟩)]
    exact (putsM_put os (i + 1) f vs a o'.dst u (fun o'' ho'' t ht => by
      obtain ⟨k, hk⟩ := List.getElem?_of_mem ho''
      exact hd (k + 1) o'' (by simpa using hk) (by omega) t ht)).symm
  | o' :: os, i, j + 1, f, vs, a, o, u, h, hf, hd => by
    simp only [putsM]
    have h1 := putsM_set os (i + 1) j f vs (if f i = true then a.put o'.dst (vs i) else a) o u (by simpa using h) (by rw [show i + 1 + j = i + (j + 1) by omega]; exact hf)
      (fun k o'' hk hne t ht => hd (k + 1) o'' (by simpa using hk) (by omega) t ht)
    rw [show i + 1 + j = i + (j + 1) by omega] at h1
    rw [h1, if_neg (show ¬ i = i + (j + 1) by omega), if_neg (show ¬ i = i + (j + 1) by omega)]
theorem put_size (a : Act) (d : Option Tmp) (v : Value) : (a.put d v).tmps.size = a.tmps.size := by cases d <;> simp [Act.put]
theorem slot_congr : ∀ (os : List Oper) (i t : Nat) (f g : Nat → Bool) (vs : Nat → Value) (a b : Act), a.tmps.size = b.tmps.size → a.tmps[t]? = b.tmps[t]? → (∀ k o, os[k]? = some o → o.dst = some t → f (i + k) = g (i + k)) →
    (putsM os i f vs a).tmps[t]? = (putsM os i g vs b).tmps[t]?
  | [], _, _, _, _, _, _, _, _, h, _ => h
  | o :: os, i, t, f, g, vs, a, b, hs, h, hd => by
    simp only [putsM]
    refine slot_congr os (i + 1) t f g vs _ _ ?_ ?_ (fun k o' hk ho' => by have := hd (k + 1) o' (by simpa using hk) ho'; rwa [show i + (k + 1) = i + 1 + k by omega] at this)
    · split <;> split <;> simp [put_size, hs]
    · by_cases ho : o.dst = some t
      · have h0 := hd 0 o (by simp) ho
        rw [Nat.add_zero] at h0
        rw [show (if f i = true then a.put o.dst (vs i) else a) = (if g i = true then a.put o.dst (vs i) else a) by rw [h0]]
        split
        · rw [ho]
          simp only [Act.put, Array.getElem?_setIfInBounds, hs, if_true]
        · exact h
      · have hp : ∀ (c : Act) (v : Value), (c.put o.dst v).tmps[t]? = c.tmps[t]? := by
          intro c v
          cases hdst : o.dst with
          | none => rfl
          | some d =>
            have hne : d ≠ t := fun e => ho (by rw [hdst, e])
            simp [Act.put, Array.getElem?_setIfInBounds_ne hne]
        split <;> split <;> simp [hp, h]
theorem wanted_congr {o : Oper} {t1 t2 : Array Value} (h : ∀ t ∈ o.looksAt ops, t1[t]? = t2[t]?) : Region.wanted o (yielded ops t1) = Region.wanted o (yielded ops t2) := by
  unfold Region.wanted
  cases hg : o.guard with
  | none => rfl
  | some gw =>
    obtain ⟨g, want⟩ := gw
    have hy : yielded ops t1 g = yielded ops t2 g := by
      unfold yielded
      cases ht : (ops[g]?).bind (·.dst) with
      | none => rfl
      | some t =>
        simp only [Option.bind_some]
        rw [h t (by simp [Oper.looksAt, hg, ht])]
    simp only [hy]
theorem eval_congr {o : Oper} {a b : Act} (h : ∀ t ∈ o.looksAt ops, a.tmps[t]? = b.tmps[t]?) : ∀ x ∈ o.op.operands, a.eval x = b.eval x := by
  intro x hx
  cases x with
  | tmp t =>
    have := h t (List.mem_append_left _ (List.mem_filterMap.2 ⟨.tmp t, by simpa using hx, rfl⟩))
    simp [Act.eval, Array.getD_eq_getD_getElem?, this]
  | _ => rfl
/-! ### The conditions -/
def reachF (md : Region.Mode) (ops : Array Oper) (i : Nat) : Nat → Oper → Bool
  | 0, o => o.after.any fun e => Region.binds md e && e.on == i
  | f + 1, o => (o.after.any fun e => Region.binds md e && e.on == i) || o.after.any fun e => Region.binds md e && (match ops[e.on]? with | none => false | some o' => reachF md ops i f o')
def Shut (md : Region.Mode) (ops : Array Oper) (listed : Array Bool) : Prop := ∀ (j : Nat) (o : Oper), ops[j]? = some o → listed.getD j false = true → ∀ e ∈ o.after, Region.binds md e = true → listed.getD e.on false = true
theorem Shut.add {listed : Array Bool} (h : Shut md ops listed) {j : Nat} (hj : j ∈ Region.ready md ops listed) : Shut md ops (listed.setIfInBounds j true) := by
  intro k o ho hk e he hb
  by_cases hjk : j = k
  · subst hjk
    obtain ⟨_, o', ho', hall⟩ := mem_ready.1 hj
    rw [ho] at ho'
    cases ho'
    exact getD_set_true (hall e he hb)
  · rw [getD_set_ne false hjk] at hk
    exact getD_set_true (h k o ho hk e he hb)
theorem reachF_listed {listed : Array Bool} (h : Shut md ops listed) {i : Nat} : ∀ (f : Nat) (o : Oper), (∀ e ∈ o.after, Region.binds md e = true → listed.getD e.on false = true) → reachF md ops i f o = true → listed.getD i false = true := by
  intro f
  induction f with
  | zero =>
    intro o ho hr
    obtain ⟨e, he, hb⟩ := Array.any_eq_true'.1 hr
    simp only [Bool.and_eq_true, beq_iff_eq] at hb
    rw [← hb.2]
    exact ho e he hb.1
  | succ f ih =>
    intro o ho hr
    simp only [reachF, Bool.or_eq_true] at hr
    rcases hr with hr | hr
    · obtain ⟨e, he, hb⟩ := Array.any_eq_true'.1 hr
      simp only [Bool.and_eq_true, beq_iff_eq] at hb
      rw [← hb.2]
      exact ho e he hb.1
    · obtain ⟨e, he, hb⟩ := Array.any_eq_true'.1 hr
      simp only [Bool.and_eq_true] at hb
      obtain ⟨hb1, hb2⟩ := hb
      cases ho' : ops[e.on]? with
      | none => rw [ho'] at hb2; cases hb2
      | some o' =>
        rw [ho'] at hb2
        exact ih o' (h e.on o' ho' (ho e he hb1)) hb2
def firstN (n k : Nat) : Array Bool := (Array.range n).map fun i => decide (i < k)
def tailB (md : Region.Mode) (ops : Array Oper) : Nat → Nat → Bool
  | 0, k => (Region.ready md ops (firstN ops.size k)).isEmpty
  | s + 1, k => (Region.ready md ops (firstN ops.size k) == [k]) && tailB md ops s (k + 1)
def opAt (ops : Array Oper) (i : Nat) (p : Oper → Bool) : Bool := match ops[i]? with | some o => p o | none => false
/-- How the region must be made: nothing is written twice, each reads what it waits for, the last ones wait for all. -/
def flowB (md : Region.Mode) (ops : Array Oper) (nq : Nat) (D : List (List Nat)) : Bool :=
  Region.noSelect ops && decide (nq ≤ ops.size) && (D.length == nq) &&
  ((List.range nq).all fun i => opAt ops i fun o => (o.after.all fun e => !Region.binds md e || decide (e.on < i)) &&
    ((D.getD i []).all fun k => decide (k < i) && reachF md ops k 8 o) &&
    (List.range nq).all fun k => opAt ops k fun o' => (match o'.dst with
      | none => true
      | some t => (k == i || o.dst != some t) && (!(o.looksAt ops).contains t || (D.getD i []).contains k))) &&
  ((List.range ops.size).all fun m => decide (m < nq) || opAt ops m fun o => (List.range nq).all fun i => reachF md ops i 8 o) &&
  tailB md ops (ops.size - nq) nq
structure Form (md : Region.Mode) (ops : Array Oper) (nq : Nat) (D : List (List Nat)) : Prop where
  sel : Region.noSelect ops = true
  le : nq ≤ ops.size
  len : D.length = nq
  op : ∀ i, i < nq → ∃ o, ops[i]? = some o
  back : ∀ i o, i < nq → ops[i]? = some o → ∀ e ∈ o.after, Region.binds md e = true → e.on < i
  dep : ∀ i o, i < nq → ops[i]? = some o → ∀ k ∈ D.getD i [], k < i ∧ reachF md ops k 8 o = true
  once : ∀ i o k o', i < nq → ops[i]? = some o → k < nq → ops[k]? = some o' → k ≠ i → ∀ t, o'.dst = some t → o.dst ≠ some t
  reads : ∀ i o k o', i < nq → ops[i]? = some o → k < nq → ops[k]? = some o' → ∀ t, o'.dst = some t → t ∈ o.looksAt ops → k ∈ D.getD i []
  tail : ∀ m o i, nq ≤ m → ops[m]? = some o → i < nq → reachF md ops i 8 o = true
  line : tailB md ops (ops.size - nq) nq = true
theorem opAt_of {i : Nat} {p : Oper → Bool} (h : opAt ops i p = true) : ∃ o, ops[i]? = some o ∧ p o = true := by
  unfold opAt at h
  cases ho : ops[i]? with
  | none => rw [ho] at h; cases h
  | some o => rw [ho] at h; exact ⟨o, rfl, h⟩
theorem form_of {nq : Nat} {D : List (List Nat)} (h : flowB md ops nq D = true) : Form md ops nq D := by
  simp only [flowB, Bool.and_eq_true, decide_eq_true_eq, beq_iff_eq] at h
  obtain ⟨⟨⟨⟨⟨h1, h2⟩, h3⟩, h4⟩, h5⟩, h6⟩ := h
  have g : ∀ i o, i < nq → ops[i]? = some o → ((o.after.all fun e => !Region.binds md e || decide (e.on < i)) &&
    ((D.getD i []).all fun k => decide (k < i) && reachF md ops k 8 o) &&
    (List.range nq).all fun k => opAt ops k fun o' => (match o'.dst with
      | none => true
      | some t => (k == i || o.dst != some t) && (!(o.looksAt ops).contains t || (D.getD i []).contains k))) = true := fun i o hi ho => by
    obtain ⟨o', ho', hp⟩ := opAt_of (List.all_eq_true.1 h4 i (List.mem_range.2 hi))
    rw [ho] at ho'
    cases ho'
    exact hp
  refine ⟨h1, h2, h3, fun i hi => ?_, fun i o hi ho e he hb => ?_, fun i o hi ho k hk => ?_, fun i o k o' hi ho hk ho' hne t ht hc => ?_, fun i o k o' hi ho hk ho' t ht hl => ?_, fun m o i hm ho hi => ?_, h6⟩
  · obtain ⟨o', ho', _⟩ := opAt_of (List.all_eq_true.1 h4 i (List.mem_range.2 hi))
    exact ⟨o', ho'⟩
  · have := g i o hi ho
    simp only [Bool.and_eq_true] at this
    have h7 := Array.all_eq_true_iff_forall_mem.1 this.1.1 e he
    simp only [Bool.or_eq_true, Bool.not_eq_true', decide_eq_true_eq] at h7
    rcases h7 with h7 | h7
    · rw [hb] at h7; cases h7
    · exact h7
  · have := g i o hi ho
    simp only [Bool.and_eq_true] at this
    have h7 := List.all_eq_true.1 this.1.2 k hk
    simpa using h7
  · have := g i o hi ho
    simp only [Bool.and_eq_true] at this
    obtain ⟨o2, ho2, hp⟩ := opAt_of (List.all_eq_true.1 this.2 k (List.mem_range.2 hk))
    rw [ho'] at ho2
    cases ho2
    simp only [ht, Bool.and_eq_true, Bool.or_eq_true, beq_iff_eq, bne_iff_ne] at hp
    rcases hp.1 with h8 | h8
    · exact hne h8
    · exact h8 hc
  · have := g i o hi ho
    simp only [Bool.and_eq_true] at this
    obtain ⟨o2, ho2, hp⟩ := opAt_of (List.all_eq_true.1 this.2 k (List.mem_range.2 hk))
    rw [ho'] at ho2
    cases ho2
    simp only [ht, Bool.and_eq_true, Bool.or_eq_true, Bool.not_eq_true', List.contains_eq_mem, decide_eq_true_eq, decide_eq_false_iff_not] at hp
    rcases hp.2 with h8 | h8
    · exact absurd hl h8
    · exact h8
  · have h7 := List.all_eq_true.1 h5 m (List.mem_range.2 (Array.getElem?_eq_some_iff.1 ho).1)
    simp only [Bool.or_eq_true, decide_eq_true_eq] at h7
    rcases h7 with h7 | h7
    · omega
    · obtain ⟨o2, ho2, hp⟩ := opAt_of h7
      rw [ho] at ho2
      cases ho2
      exact List.all_eq_true.1 hp i (List.mem_range.2 hi)
/-! ### What a flow says of one operation, and of its end -/
def factsOf : List Spec → Nat → (Nat → Value) → Facts → Facts
  | [], _, _, F => F
  | .is _ :: ss, i, vs, F => factsOf ss (i + 1) vs F
  | .has Φ :: ss, i, vs, F => factsOf ss (i + 1) vs ((i, vs i, Φ) :: F)
def Fits (ss : List Spec) (i : Nat) (vs : Nat → Value) : Prop := ∀ (k : Nat) (c : Value), ss[k]? = some (.is c) → vs (i + k) = c
theorem flow_end {T : Act → (World → Prop) → Prop} : ∀ (ss : List Spec) (D : List (List Nat)) (os : List Oper) (i : Nat) (a : Act) (F : Facts) (vs : Nat → Value), os.length = ss.length → D.length = ss.length → Fits ss i vs →
    flow P ops w0 T D os ss i a F → T (putsL os i vs a) (All (factsOf ss i vs F)) := by
  intro ss
  induction ss with
  | nil =>
    intro D os i a F vs h1 h2 _ h
    obtain rfl : os = [] := List.length_eq_zero_iff.1 h1
    obtain rfl : D = [] := List.length_eq_zero_iff.1 h2
    exact h
  | cons s ss ih =>
    intro D os i a F vs h1 h2 hf h
    cases os with
    | nil => simp at h1
    | cons o os =>
      cases D with
      | nil => simp at h2
      | cons ds D =>
        have hf' : Fits ss (i + 1) vs := fun k c' hk => by have := hf (k + 1) c' (by simpa using hk); rwa [show i + (k + 1) = i + 1 + k by omega] at this
        cases s with
        | is c =>
          simp only [putsL, factsOf]
          have h0 : vs i = c := hf 0 c (by simp)
          rw [h0]
          exact ih D os (i + 1) _ F vs (by simpa using h1) (by simpa using h2) hf' h.2
        | has Φ =>
          simp only [putsL, factsOf]
          exact ih D os (i + 1) _ _ vs (by simpa using h1) (by simpa using h2) hf' (h.2 (vs i))
def VC (P : Program) (ops : Array Oper) (o : Oper) (s : Spec) (a : Act) (w : World) : Prop := if Region.wanted o (yielded ops a.tmps) = true then gives P o a w s.ok else s.ok undef w
theorem flow_at {T : Act → (World → Prop) → Prop} : ∀ (D : List (List Nat)) (os : List Oper) (ss : List Spec) (i : Nat) (a : Act) (F : Facts) (vs : Nat → Value), Fits ss i vs → flow P ops w0 T D os ss i a F →
    ∀ (k : Nat) (o : Oper) (s : Spec) (ds : List Nat), os[k]? = some o → ss[k]? = some s → D[k]? = some ds → ∀ w, Bel w0 w → Known (factsOf (ss.take k) i vs F) ds w → VC P ops o s (putsL (os.take k) i vs a) w
  | [], _, _, _, _, _, _, _, _, _, _, _, _, _, _, hD => by simp at hD
  | _ :: _, [], _, _, _, _, _, _, _, _, _, _, _, ho, _, _ => by simp at ho
  | _ :: _, _ :: _, [], _, _, _, _, _, _, _, _, _, _, _, hs, _ => by simp at hs
  | ds :: D, o :: os, .is c :: ss, i, a, F, vs, hf, h, 0, o', s', ds', ho, hs, hD => by
    simp at ho hs hD
    subst ho; subst hs; subst hD
    exact h.1
  | ds :: D, o :: os, .has Φ :: ss, i, a, F, vs, hf, h, 0, o', s', ds', ho, hs, hD => by
    simp at ho hs hD
    subst ho; subst hs; subst hD
    exact h.1
  | ds :: D, o :: os, .is c :: ss, i, a, F, vs, hf, h, k + 1, o', s', ds', ho, hs, hD => by
    simp only [List.take_succ_cons, putsL, factsOf]
    have h0 : vs i = c := hf 0 c (by simp)
    rw [h0]
    exact flow_at D os ss (i + 1) _ F vs (fun k c' hk => by have := hf (k + 1) c' (by simpa using hk); rwa [show i + (k + 1) = i + 1 + k by omega] at this) h.2 k o' s' ds' (by simpa using ho) (by simpa using hs) (by simpa using hD)
  | ds :: D, o :: os, .has Φ :: ss, i, a, F, vs, hf, h, k + 1, o', s', ds', ho, hs, hD => by
    simp only [List.take_succ_cons, putsL, factsOf]
    exact flow_at D os ss (i + 1) _ _ vs (fun k c' hk => by have := hf (k + 1) c' (by simpa using hk); rwa [show i + (k + 1) = i + 1 + k by omega] at this) (h.2 (vs i)) k o' s' ds' (by simpa using ho) (by simpa using hs) (by simpa using hD)
theorem known_of : ∀ (ss : List Spec) (i : Nat) (vs : Nat → Value) (F : Facts) (ds : List Nat) (w : World), Known F ds w → (∀ (k : Nat) (Φ : Value → World → Prop), ss[k]? = some (Spec.has Φ) → i + k ∈ ds → Φ (vs (i + k)) w) → Known (factsOf ss i vs F) ds w
  | [], _, _, _, _, _, h, _ => h
  | .is c :: ss, i, vs, F, ds, w, h, hk => known_of ss (i + 1) vs F ds w h (fun k Φ hs hd => by have := hk (k + 1) Φ (by simpa using hs); rw [show i + (k + 1) = i + 1 + k by omega] at this; exact this hd)
  | .has Φ :: ss, i, vs, F, ds, w, h, hk => known_of ss (i + 1) vs _ ds w (by
      refine ⟨?_, h⟩
      cases hc : ds.contains i with
      | false => trivial
      | true => exact hk 0 Φ (by simp) (by simpa using hc)) (fun k Φ hs hd => by have := hk (k + 1) Φ (by simpa using hs); rw [show i + (k + 1) = i + 1 + k by omega] at this; exact this hd)
theorem all_of : ∀ (ss : List Spec) (i : Nat) (vs : Nat → Value) (F : Facts) (w : World), All F w → (∀ (k : Nat) (Φ : Value → World → Prop), ss[k]? = some (Spec.has Φ) → Φ (vs (i + k)) w) → All (factsOf ss i vs F) w
  | [], _, _, _, _, h, _ => h
  | .is c :: ss, i, vs, F, w, h, hk => all_of ss (i + 1) vs F w h (fun k Φ hs => by have := hk (k + 1) Φ (by simpa using hs); rwa [show i + (k + 1) = i + 1 + k by omega] at this)
  | .has Φ :: ss, i, vs, F, w, h, hk => all_of ss (i + 1) vs _ w ⟨hk 0 Φ (by simp), h⟩ (fun k Φ hs => by have := hk (k + 1) Φ (by simpa using hs); rwa [show i + (k + 1) = i + 1 + k by omega] at this)
/-! ### Every order -/
def cnt (f : Nat → Bool) : Nat → Nat
  | 0 => 0
  | n + 1 => cnt f n + if f n = true then 0 else 1
theorem cnt_zero {f : Nat → Bool} : ∀ {n : Nat}, cnt f n = 0 → ∀ i, i < n → f i = true
  | n + 1, h, i, hi => by
    simp only [cnt] at h
    by_cases h1 : f n = true
    · rw [if_pos h1] at h
      by_cases hin : i = n
      · subst hin; exact h1
      · exact cnt_zero (n := n) (by omega) i (by omega)
    · rw [if_neg h1] at h; omega
theorem cnt_pos {f : Nat → Bool} : ∀ {n : Nat}, cnt f n ≠ 0 → ∃ i, i < n ∧ f i = false ∧ ∀ k, k < i → f k = true
  | n + 1, h => by
    by_cases h0 : cnt f n = 0
    · simp only [cnt] at h
      rw [h0] at h
      refine ⟨n, by omega, ?_, cnt_zero h0⟩
      by_cases h1 : f n = true
      · rw [if_pos h1] at h; omega
      · simpa using h1
    · obtain ⟨i, h1, h2, h3⟩ := cnt_pos h0
      exact ⟨i, by omega, h2, h3⟩
  | 0, h => absurd rfl h
theorem cnt_set {f g : Nat → Bool} {j : Nat} (hf : f j = false) (hg : g j = true) (hne : ∀ k, k ≠ j → g k = f k) : ∀ {n : Nat}, (n ≤ j → cnt g n = cnt f n) ∧ (j < n → cnt f n = cnt g n + 1)
  | 0 => ⟨fun _ => rfl, fun h => absurd h (by omega)⟩
  | n + 1 => by
    obtain ⟨h1, h2⟩ := cnt_set hf hg hne (n := n)
    refine ⟨fun h => ?_, fun h => ?_⟩
    · simp only [cnt]
      rw [h1 (by omega), hne n (by omega)]
    · simp only [cnt]
      by_cases hj : j = n
      · subst hj
        rw [h1 (Nat.le_refl _), hf, hg]
        simp
      · rw [h2 (by omega), hne n (by omega)]
        omega
structure Inv (md : Region.Mode) (ops : Array Oper) (nq : Nat) (os : List Oper) (ss : List Spec) (w0 : World) (a0 : Act) (listed : Array Bool) (a : Act) (w : World) : Prop where
  size : listed.size = ops.size
  shut : Shut md ops listed
  bel : Bel w0 w
  late : ∀ j, nq ≤ j → listed.getD j false = false
  vals : ∃ vs, Fits ss 0 vs ∧ a = putsM os 0 (fun i => listed.getD i false) vs a0 ∧ ∀ i s, i < nq → listed.getD i false = true → ss[i]? = some s → s.ok (vs i) w
theorem flow_any {Q : Exit → Act → World → Prop} {T : Act → (World → Prop) → Prop} {nq : Nat} {D : List (List Nat)} {os : List Oper} {ss : List Spec} {a0 : Act} {s : Nat} (hF : Form md ops nq D) (hos : ∀ k, k < nq → os[k]? = ops[k]?) (hol : os.length = nq) (hsl : ss.length = nq)
    (hst : Steady ss) (hfl : flow P ops w0 T D os ss 0 a0 []) (hT : ∀ a Kn, T a Kn → ∀ w, Bel w0 w → Kn w → wpAny P md ops Q s (firstN ops.size nq) a w) :
    ∀ (c : Nat) (listed : Array Bool) (a : Act) (w : World), cnt (fun i => listed.getD i false) nq = c → Inv md ops nq os ss w0 a0 listed a w → wpAny P md ops Q (c + s) listed a w := by
  intro c
  induction c with
  | zero =>
    intro listed a w hc hI
    obtain ⟨vs, hfit, rfl, hok⟩ := hI.vals
    have hall := cnt_zero hc
    have hl : listed = firstN ops.size nq := by
      refine Array.ext (by rw [hI.size]; simp [firstN]) fun i h1 h2 => ?_
      have e : listed[i] = listed.getD i false := by simp [h1]
      rw [e]
      simp only [firstN, Array.getElem_map, Array.getElem_range]
      by_cases hi : i < nq
      · rw [hall i hi]; simp [hi]
      · rw [hI.late i (by omega)]; simp [hi]
    have hend := flow_end ss D os 0 a0 [] vs (by omega) (by rw [hF.len]; omega) hfit hfl
    rw [Nat.zero_add]
    rw [putsM_all os 0 _ vs a0 (fun k _ hk => hall k (by omega)), hl]
    refine hT _ _ hend w hI.bel (all_of ss 0 vs [] w trivial fun k Φ hk => ?_)
    rw [Nat.zero_add]
    have hkn : k < nq := by have := (List.getElem?_eq_some_iff.1 hk).1; omega
    exact hok k (.has Φ) hkn (hall k hkn) hk
  | succ c ih =>
    intro listed a w hc hI
    obtain ⟨i0, hi0, hun, hlow⟩ := cnt_pos (f := fun i => listed.getD i false) (n := nq) (by omega)
    have untrue : ∀ {i : Nat}, i < ops.size → listed.getD i false = false → listed.getD i true = false := fun {i} hi h => by
      have : i < listed.size := by rw [hI.size]; exact hi
      simp [this] at h ⊢
      exact h
    have hready : i0 ∈ Region.ready md ops listed := by
      obtain ⟨o, ho⟩ := hF.op i0 hi0
      exact mem_ready.2 ⟨untrue (by have := hF.le; omega) hun, o, ho, fun e he hb => hlow e.on (hF.back i0 o hi0 ho e he hb)⟩
    rw [Nat.succ_add]
    refine ⟨fun h => (by rw [h] at hready; cases hready), fun j hj => ?_⟩
    obtain ⟨hjun, oj, hoj, hall⟩ := mem_ready.1 hj
    have hjn : j < nq := by
      by_cases h : j < nq
      · exact h
      · have h1 := reachF_listed hI.shut 8 oj hall (hF.tail j oj i0 (by omega) hoj hi0)
        rw [h1] at hun
        cases hun
    have hjun' : listed.getD j false = false := by
      have : j < listed.size := by rw [hI.size]; have := hF.le; omega
      simp [this] at hjun ⊢
      exact hjun
    obtain ⟨vs, hfit, rfl, hok⟩ := hI.vals
    obtain ⟨sj, hsj⟩ : ∃ s, ss[j]? = some s := ⟨_, List.getElem?_eq_getElem (by omega)⟩
    obtain ⟨dj, hdj⟩ : ∃ d, D[j]? = some d := ⟨_, List.getElem?_eq_getElem (by rw [hF.len]; omega)⟩
    have hdj' : D.getD j [] = dj := by rw [List.getD_eq_getElem?_getD, hdj]; rfl
    have hoj' : os[j]? = some oj := (hos j hjn).trans hoj
    have hlist : ∀ k, k ∈ dj → k < j ∧ listed.getD k false = true := fun k hk => by
      have h1 := hF.dep j oj hjn hoj k (by rw [hdj']; exact hk)
      exact ⟨h1.1, reachF_listed hI.shut 8 oj hall h1.2⟩
    have hvc := flow_at D os ss 0 a0 [] vs hfit hfl j oj sj dj hoj' hsj hdj w hI.bel (known_of (ss.take j) 0 vs [] dj w trivial fun k Φ hk hkd => by
      rw [Nat.zero_add] at hkd ⊢
      obtain ⟨h1, h2⟩ := hlist k hkd
      rw [List.getElem?_take, if_pos h1] at hk
      exact hok k (.has Φ) (by omega) h2 hk)
    have hslots : ∀ t ∈ oj.looksAt ops, (putsL (os.take j) 0 vs a0).tmps[t]? = (putsM os 0 (fun i => listed.getD i false) vs a0).tmps[t]? := by
      intro t ht
      rw [putsL_take]
      refine slot_congr os 0 t _ _ vs a0 a0 rfl rfl fun k o hk hdst => ?_
      have hkn : k < nq := by have := (List.getElem?_eq_some_iff.1 hk).1; omega
      have h1 := hF.reads j oj k o hjn hoj hkn ((hos k hkn).symm.trans hk) t hdst ht
      rw [hdj'] at h1
      obtain ⟨h2, h3⟩ := hlist k h1
      rw [Nat.zero_add, h3]
      simp [h2]
    have hstep : ∀ u w', Bel w w' → sj.ok u w' → wpAny P md ops Q (c + s) (listed.setIfInBounds j true) ((putsM os 0 (fun i => listed.getD i false) vs a0).put oj.dst u) w' := by
      intro u w' hw' hu
      have hset : ∀ k, (listed.setIfInBounds j true).getD k false = if k = 0 + j then true else listed.getD k false := fun k => by
        rw [Nat.zero_add]
        by_cases hk : k = j
        · subst hk
          have : k < listed.size := by rw [hI.size]; have := hF.le; omega
          simp [this]
        · rw [if_neg hk, getD_set_ne false (Ne.symm hk)]
      refine ih _ _ _ ?_ ⟨by rw [Array.size_setIfInBounds]; exact hI.size, hI.shut.add hj, hI.bel.trans hw', fun k hk => ?_, fun k => if k = 0 + j then u else vs k, fun k c' hk => ?_, ?_, fun i s' hi hl hs' => ?_⟩
      · have := (cnt_set (f := fun i => listed.getD i false) (g := fun i => (listed.setIfInBounds j true).getD i false) (j := j) hjun' (by simp only [hset]; rw [if_pos (by omega)]) (fun k hk => by simp only [hset]; rw [if_neg (by omega)]) (n := nq)).2 hjn
        omega
      · rw [hset, if_neg (by omega)]; exact hI.late k hk
      · dsimp only
        rw [Nat.zero_add, Nat.zero_add]
        split
        · rename_i he
          rw [he, hsj] at hk
          simp only [Option.some.injEq] at hk
          subst hk
          exact hu
        · have := hfit k c' hk; rwa [Nat.zero_add] at this
      · rw [putsM_set os 0 j _ vs a0 oj u hoj' (by rw [Nat.zero_add]; exact hjun') (fun k o' hk hne t ht hc => by
          have hkn : k < nq := by have := (List.getElem?_eq_some_iff.1 hk).1; omega
          exact hF.once k o' j oj hkn ((hos k hkn).symm.trans hk) hjn hoj (Ne.symm hne) t ht hc)]
        congr 1
        funext k
        rw [hset]
      · rw [hset, Nat.zero_add] at hl
        dsimp only
        rw [Nat.zero_add]
        split
        · rename_i he
          rw [he, hsj] at hs'
          simp only [Option.some.injEq] at hs'
          subst hs'
          exact hu
        · rename_i he
          rw [if_neg he] at hl
          exact steady_at hst hs' _ _ _ (hok i s' hi hl hs') hw'
    unfold wpOp
    rw [hoj]
    dsimp only
    unfold VC at hvc
    rw [wanted_congr hslots] at hvc
    by_cases hwn : Region.wanted oj (yielded ops (putsM os 0 (fun i => listed.getD i false) vs a0).tmps) = true
    · rw [if_pos hwn] at hvc ⊢
      refine .inl ?_
      unfold gives at hvc
      unfold Oper.wp
      rw [execOp_congr oj (fun cs b => Region.noSelect_spec hF.sel j oj cs b hoj) (eval_congr hslots)] at hvc
      generalize (execOp (putsM os 0 (fun i => listed.getD i false) vs a0).eval oj).run P w = r at hvc ⊢
      cases r with
      | halt x w' => exact hvc.elim
      | ok x w' =>
        cases x <;> simp only [givesUpon] at hvc <;> simp only [Oper.upon]
        case value u => exact hstep u w' hvc.1 hvc.2
        case skip => exact hstep undef w' hvc.1 hvc.2
        case enter f args =>
          refine hvc.mono fun e w'' he => ?_
          obtain ⟨u, rfl, h1, h2⟩ := he
          exact hstep u w'' h1 h2
    · rw [if_neg hwn] at hvc ⊢
      exact hstep undef w (Bel.refl w) hvc
theorem wpAny_line {Q : Exit → Act → World → Prop} : ∀ (s k : Nat) (l : List Oper) (a : Act) (w : World), k + s = ops.size → (∀ j, l[j]? = ops[k + j]?) → l.length = s → tailB md ops s k = true → wpList P ops Q l a w → wpAny P md ops Q s (firstN ops.size k) a w
  | 0, k, l, a, w, hks, _, hl, hB, h => by
    have : l = [] := List.length_eq_zero_iff.1 hl
    subst this
    refine ⟨?_, h⟩
    simpa [tailB] using hB
  | s + 1, k, l, a, w, hks, hj, hl, hB, h => by
    simp only [tailB, Bool.and_eq_true, beq_iff_eq] at hB
    obtain ⟨hr, hB'⟩ := hB
    cases l with
    | nil => simp at hl
    | cons o l =>
      have ho : ops[k]? = some o := by simpa using (hj 0).symm
      have hset : (firstN ops.size k).setIfInBounds k true = firstN ops.size (k + 1) := by
        refine Array.ext (by simp [firstN]) fun i h1 h2 => ?_
        have h3 : i < ops.size := by simpa [firstN] using h2
        by_cases hki : k = i
        · subst hki
          simp [firstN]
        · rw [Array.getElem_setIfInBounds_ne (by simpa [firstN] using h3) hki]
          simp [firstN]
          omega
      refine wpAny_all hr (by simp) fun i hi => ?_
      obtain rfl : i = k := by simpa using hi
      rw [hset]
      have hnext : ∀ a w, wpList P ops Q l a w → wpAny P md ops Q s (firstN ops.size (i + 1)) a w := fun a w h => wpAny_line s (i + 1) l a w (by omega) (fun j => by have := hj (j + 1); simpa [Nat.add_assoc, Nat.add_comm 1 j] using this) (by simpa using hl) hB' h
      unfold wpOp
      rw [ho]
      simp only [wpList] at h
      dsimp only
      split
      · rename_i hw
        rw [if_pos hw] at h
        exact h.imp (Oper.wp_mono hnext) id
      · rename_i hw
        rw [if_neg hw] at h
        exact hnext _ _ h
theorem region_flow {id : Nat} {Q : Exit → Act → World → Prop} {a : Act} {w : World} {l : List Oper} (nq : Nat) (D : List (List Nat)) (ss : List Spec) (hm : P.follows .mixedOrders = true) (hB : flowB .any l.toArray nq D = true) (hsl : ss.length = nq) (hst : Steady ss)
    (h : flow P l.toArray w (fun a' Kn => ∀ w', Bel w w' → Kn w' → wpList P l.toArray Q (l.drop nq) a' w') D (l.take nq) ss 0 a []) : (Code.region id l.toArray true).wp P Q a w := by
  have hF := form_of hB
  have hle : nq ≤ l.length := by simpa using hF.le
  refine wp_region_any hm ?_
  have hcnt : cnt (fun i => (Array.replicate l.toArray.size false).getD i false) nq = nq := by
    have : ∀ n, cnt (fun i => (Array.replicate l.toArray.size false).getD i false) n = n := fun n => by
      induction n with
      | zero => rfl
      | succ n ih => simp only [cnt]; rw [ih, if_neg (by rw [getD_replicate_false]; simp)]
    exact this nq
  have h1 := flow_any (Q := Q) (s := l.toArray.size - nq) (os := l.take nq) hF (fun k hk => by rw [List.getElem?_take, if_pos hk]; simp) (by rw [List.length_take]; omega) hsl hst h
    (fun a' Kn hT w' hw' hk => wpAny_line (l.toArray.size - nq) nq (l.drop nq) a' w' (by simp; omega) (fun j => by rw [List.getElem?_drop]; simp) (by simp) hF.line (hT w' hw' hk))
    nq (Array.replicate l.toArray.size false) a { w with drawn := w.drawn + 1 } hcnt
    ⟨by simp, fun j o _ hl => (by rw [getD_replicate_false] at hl; cases hl), (Bel.refl w).drew, fun j _ => getD_replicate_false _ _, fun k => match ss[k]? with | some (.is c) => c | _ => undef, fun k c hk => by rw [Nat.zero_add]; simp only [hk],
      (putsM_none _ _ _ _ _ (fun k _ => getD_replicate_false _ _)).symm, fun i s _ hl => (by rw [getD_replicate_false] at hl; cases hl)⟩
  rw [show nq + (l.toArray.size - nq) = l.toArray.size by simp; omega] at h1
  exact h1
theorem want {c A B : Prop} [Decidable c] (hc : c) (h : A) : if c then A else B := by rw [if_pos hc]; exact h
theorem wantnot {c A B : Prop} [Decidable c] (hc : ¬ c) (h : B) : if c then A else B := by rw [if_neg hc]; exact h
theorem gives_val {o : Oper} {a : Act} {w : World} {c : Value} (h : (execOp a.eval o).run P w = .ok (.value c) w) : gives P o a w (fun v _ => v = c) := by
  unfold gives
  rw [h]
  exact ⟨Bel.refl w, rfl⟩
/-- A call makes a value, new memory, and changes nothing that was. -/
def Makes (w : World) (Φ : Value → World → Prop) (e : Ending) (w' : World) : Prop := ∃ v, e = .returned v ∧ Bel w w' ∧ Φ v w'
theorem gives_call {o : Oper} {a : Act} {w : World} {Φ : Value → World → Prop} {f : FuncId} {args : Array Value} (h : (execOp a.eval o).run P w = .ok (.enter f args) w) (hc : Calls P f args w (Makes w Φ)) : gives P o a w Φ := by
  unfold gives
  rw [h]
  exact hc
theorem gives_of {o : Oper} {a : Act} {w : World} {Φ : Value → World → Prop} {c : Value} (h : (execOp a.eval o).run P w = .ok (.value c) w) (hc : Φ c w) : gives P o a w Φ := by
  unfold gives
  rw [h]
  exact ⟨Bel.refl w, hc⟩
variable {T : Act → (World → Prop) → Prop}
theorem flow_is {ds : List Nat} {D : List (List Nat)} {o : Oper} {os : List Oper} {c : Value} {ss : List Spec} {i : Nat} {a : Act} {F : Facts} (h1 : ∀ w, Bel w0 w → Known F ds w → if Region.wanted o (yielded ops a.tmps) = true then gives P o a w (fun v _ => v = c) else undef = c)
    (h2 : flow P ops w0 T D os ss (i + 1) (a.put o.dst c) F) : flow P ops w0 T (ds :: D) (o :: os) (.is c :: ss) i a F := ⟨h1, h2⟩
theorem flow_has {ds : List Nat} {D : List (List Nat)} {o : Oper} {os : List Oper} {Φ : Value → World → Prop} {ss : List Spec} {i : Nat} {a : Act} {F : Facts} (h1 : ∀ w, Bel w0 w → Known F ds w → if Region.wanted o (yielded ops a.tmps) = true then gives P o a w Φ else Φ undef w)
    (h2 : ∀ v, flow P ops w0 T D os ss (i + 1) (a.put o.dst v) ((i, v, Φ) :: F)) : flow P ops w0 T (ds :: D) (o :: os) (.has Φ :: ss) i a F := ⟨h1, h2⟩
/-! ### In short -/
theorem fV {ds : List Nat} {D : List (List Nat)} {o : Oper} {os : List Oper} {c : Value} {ss : List Spec} {i : Nat} {a : Act} {F : Facts} (hw : Region.wanted o (yielded ops a.tmps) = true) (h1 : ∀ w, Bel w0 w → Known F ds w → (execOp a.eval o).run P w = .ok (.value c) w)
    (h2 : flow P ops w0 T D os ss (i + 1) (a.put o.dst c) F) : flow P ops w0 T (ds :: D) (o :: os) (.is c :: ss) i a F := flow_is (fun w hb hk => want hw (gives_val (h1 w hb hk))) h2
theorem fC {f : FuncId} {args : Array Value} {ds : List Nat} {D : List (List Nat)} {o : Oper} {os : List Oper} {c : Value} {ss : List Spec} {i : Nat} {a : Act} {F : Facts} (hw : Region.wanted o (yielded ops a.tmps) = true) (h1 : ∀ w, Bel w0 w → Known F ds w → Calls P f args w (Makes w fun v _ => v = c)) (he : ∀ w, (execOp a.eval o).run P w = .ok (.enter f args) w)
    (h2 : flow P ops w0 T D os ss (i + 1) (a.put o.dst c) F) : flow P ops w0 T (ds :: D) (o :: os) (.is c :: ss) i a F := flow_is (fun w hb hk => want hw (gives_call (he w) (h1 w hb hk))) h2
theorem fH {f : FuncId} {args : Array Value} {ds : List Nat} {D : List (List Nat)} {o : Oper} {os : List Oper} {Φ : Value → World → Prop} {ss : List Spec} {i : Nat} {a : Act} {F : Facts} (hw : Region.wanted o (yielded ops a.tmps) = true) (h1 : ∀ w, Bel w0 w → Known F ds w → Calls P f args w (Makes w Φ)) (he : ∀ w, (execOp a.eval o).run P w = .ok (.enter f args) w)
    (h2 : ∀ v, flow P ops w0 T D os ss (i + 1) (a.put o.dst v) ((i, v, Φ) :: F)) : flow P ops w0 T (ds :: D) (o :: os) (.has Φ :: ss) i a F := flow_has (fun w hb hk => want hw (gives_call (he w) (h1 w hb hk))) h2
theorem sA {α : Type} (l : List α) (i : Nat) (a : α) : l.toArray.setIfInBounds i a = (l.set i a).toArray := List.setIfInBounds_toArray l i a
theorem sB {α : Type} (x : α) (l : List α) (i : Nat) (a : α) : (x :: l).set (i + 1) a = x :: l.set i a := List.set_cons_succ
theorem sC {α : Type} (x : α) (l : List α) (a : α) : (x :: l).set 0 a = a :: l := List.set_cons_zero
section
variable {w : World} {X t : Nat} {a0 a1 a2 a3 a4 a5 : Value}
theorem boxc2 (h : w.heap[X]? = some (.cells #[a0, a1] t (0, 0))) : w.cell? ⟨X, 0, none⟩ = some a0 ∧ w.cell? ⟨X, 1, none⟩ = some a1 := ⟨(heap_cell h 0).trans rfl, (heap_cell h 1).trans rfl⟩
theorem boxc3 (h : w.heap[X]? = some (.cells #[a0, a1, a2] t (0, 0))) : w.cell? ⟨X, 0, none⟩ = some a0 ∧ w.cell? ⟨X, 1, none⟩ = some a1 ∧ w.cell? ⟨X, 2, none⟩ = some a2 := ⟨(heap_cell h 0).trans rfl, (heap_cell h 1).trans rfl, (heap_cell h 2).trans rfl⟩
theorem boxc6 (h : w.heap[X]? = some (.cells #[a0, a1, a2, a3, a4, a5] t (0, 0))) : w.cell? ⟨X, 0, none⟩ = some a0 ∧ w.cell? ⟨X, 1, none⟩ = some a1 ∧ w.cell? ⟨X, 2, none⟩ = some a2 ∧ w.cell? ⟨X, 3, none⟩ = some a3 ∧ w.cell? ⟨X, 4, none⟩ = some a4 ∧ w.cell? ⟨X, 5, none⟩ = some a5 :=
  ⟨(heap_cell h 0).trans rfl, (heap_cell h 1).trans rfl, (heap_cell h 2).trans rfl, (heap_cell h 3).trans rfl, (heap_cell h 4).trans rfl, (heap_cell h 5).trans rfl⟩
end
end Go.Proofs.YtafmfnpjhhaikaaGreatDoor
namespace Go.Proofs.YtafmfnpjhhaikaaGreatDoor
open Go.RowKit Go.Shelf
/-- Limbs that can be read, of a number; the number's own limbs. -/
def NI (w : World) (v : Value) (n : Nat) : Prop := ∃ p c l, v = .slice p (l : List Nat).length c ∧ R64 w (.slice p l.length c) l ∧ PlainP p ∧ valB B64 l = n ∧ l.length < 400000000
def NC (w : World) (v : Value) (n : Nat) : Prop := ∃ p c, v = .slice p (limB B64 n).length c ∧ R64 w (.slice p (limB B64 n).length c) (limB B64 n) ∧ PlainP p
theorem NI.bel {w w' : World} {v : Value} {n : Nat} (h : NI w v n) (hb : Bel w w') : NI w' v n := by
  obtain ⟨p, c, l, h1, h2, h3⟩ := h
  exact ⟨p, c, l, h1, h2.bel hb, h3⟩
theorem NC.bel {w w' : World} {v : Value} {n : Nat} (h : NC w v n) (hb : Bel w w') : NC w' v n := by
  obtain ⟨p, c, h1, h2, h3⟩ := h
  exact ⟨p, c, h1, h2.bel hb, h3⟩
theorem NC.ni {w : World} {v : Value} {n k : Nat} (h : NC w v n) (hn : n < B64 ^ k) (hk : k < 400000000) : NI w v n := by
  obtain ⟨p, c, h1, h2, h3⟩ := h
  have := lim_len b64_two hn
  exact ⟨p, c, limB B64 n, h1, h2, h3, val_lim b64_two n, by omega⟩
theorem nc_of {w w' : World} {p : Option Addr} {c n : Nat} (h : O64 w' w.heap.size (.slice p (limB B64 n).length c) (limB B64 n)) : NC w' (.slice p (limB B64 n).length c) n := ⟨p, c, rfl, h.row, h.plain⟩
theorem ni_nil (w : World) : NI w (.slice none 0 0) 0 := ⟨none, 0, [], rfl, LRow.nil _ _ _, .inl rfl, rfl, by simp⟩
theorem mk_add {w : World} {a b : Value} {m n : Nat} (ha : NI w a m) (hb : NI w b n) : Calls Tryz.prog 175 #[a, b] w (Makes w fun v w' => NC w' v (m + n)) := by
  obtain ⟨p1, c1, l1, rfl, r1, q1, rfl, k1⟩ := ha
  obtain ⟨p2, c2, l2, rfl, r2, q2, rfl, k2⟩ := hb
  refine (natAdd_any p1 p2 c1 c2 l1 l2 w r1 r2 (by omega) (by omega)).mono ?_
  rintro e w' ⟨p, c, rfl, ho, hb⟩
  exact ⟨_, rfl, hb, nc_of ho⟩
theorem mk_mul {w : World} {a b : Value} {m n : Nat} (ha : NI w a m) (hb : NI w b n) : Calls Tryz.prog 141 #[a, b] w (Makes w fun v w' => NC w' v (m * n)) := by
  obtain ⟨p1, c1, l1, rfl, r1, q1, rfl, k1⟩ := ha
  obtain ⟨p2, c2, l2, rfl, r2, q2, rfl, k2⟩ := hb
  refine (natMul_any p1 p2 c1 c2 l1 l2 w r1 r2 (by omega) (by omega)).mono ?_
  rintro e w' ⟨p, c, rfl, ho, hb⟩
  exact ⟨_, rfl, hb, nc_of ho⟩
theorem mk_cmp {w : World} {a b : Value} {m n : Nat} (ha : NI w a m) (hb : NI w b n) : Calls Tryz.prog 115 #[a, b] w (Makes w fun v _ => v = .int .i64 (cmpN m n)) := by
  obtain ⟨p1, c1, l1, rfl, r1, q1, rfl, k1⟩ := ha
  obtain ⟨p2, c2, l2, rfl, r2, q2, rfl, k2⟩ := hb
  refine (natCmp_any p1 p2 c1 c2 l1 l2 w r1 r2 (by omega) (by omega)).mono ?_
  rintro e w' ⟨rfl, hb⟩
  exact ⟨_, rfl, hb, rfl⟩
theorem mk_of (x : Nat) (hx : x < B64) (w : World) : Calls Tryz.prog 116 #[.int .u64 (x : Int)] w (Makes w fun v w' => NC w' v x) := by
  refine (natOf_any x hx w).mono ?_
  rintro e w' ⟨p, c, rfl, ho, hb⟩
  exact ⟨_, rfl, hb, nc_of ho⟩
theorem mk_sub {w : World} {a b : Value} {m n : Nat} (ha : NI w a m) (hb : NI w b n) (hle : n ≤ m) : Calls Tryz.prog 176 #[a, b] w (Makes w fun v w' => ∃ u, v = .tuple #[u, .int .i64 0] ∧ NC w' u (m - n)) := by
  obtain ⟨p1, c1, l1, rfl, r1, q1, rfl, k1⟩ := ha
  obtain ⟨p2, c2, l2, rfl, r2, q2, rfl, k2⟩ := hb
  refine (natSub_any p1 p2 c1 c2 l1 l2 w r1 r2 (by omega) (by omega) hle).mono ?_
  rintro e w' ⟨p, c, rfl, ho, hb⟩
  exact ⟨_, rfl, hb, _, rfl, nc_of ho⟩
theorem mk_divMod {w : World} {a b : Value} {m n : Nat} (ha : NI w a m) (hb : NI w b n) (h0 : n ≠ 0) :
    Calls Tryz.prog 174 #[a, b] w (Makes w fun v w' => ∃ q r, v = .tuple #[q, r, .int .i64 0] ∧ NC w' q (m / n) ∧ NC w' r (m % n)) := by
  obtain ⟨p1, c1, l1, rfl, r1, q1, rfl, k1⟩ := ha
  obtain ⟨p2, c2, l2, rfl, r2, q2, rfl, k2⟩ := hb
  by_cases hlt : valB B64 l1 < valB B64 l2
  · refine (divMod_less p1 p2 c1 c2 l1 l2 w r1 r2 (by omega) (by omega) q1 hlt).mono ?_
    rintro e w' ⟨r, cr, rfl, ho, hb⟩
    rw [Nat.div_eq_of_lt hlt, Nat.mod_eq_of_lt hlt]
    rw [← lim_val b64_two r1.all] at ho
    exact ⟨_, rfl, hb, _, _, rfl, ⟨none, 0, by rw [lim_zero]; rfl, by rw [lim_zero]; exact LRow.nil _ _ _, .inl rfl⟩, by rw [← lim_val b64_two r1.all]; exact nc_of ho⟩
  · have hge : valB B64 l2 ≤ valB B64 l1 := by omega
    have hne : (trimL l2).length ≠ 0 := by
      intro h
      have h1 := val_trim B64 l2
      rw [List.length_eq_zero_iff.1 h] at h1
      simp [valB] at h1
      exact h0 h1.symm
    have hfin : ∀ e w', (∃ q cq r cr, e = Ending.returned (.tuple #[.slice q (limB B64 (valB B64 l1 / valB B64 l2)).length cq, .slice r (limB B64 (valB B64 l1 % valB B64 l2)).length cr, .int .i64 0]) ∧
        O64 w' w.heap.size (.slice q (limB B64 (valB B64 l1 / valB B64 l2)).length cq) (limB B64 (valB B64 l1 / valB B64 l2)) ∧ O64 w' w.heap.size (.slice r (limB B64 (valB B64 l1 % valB B64 l2)).length cr) (limB B64 (valB B64 l1 % valB B64 l2)) ∧ Bel w w') →
        Makes w (fun v w' => ∃ q r, v = .tuple #[q, r, .int .i64 0] ∧ NC w' q (valB B64 l1 / valB B64 l2) ∧ NC w' r (valB B64 l1 % valB B64 l2)) e w' := by
      rintro e w' ⟨q, cq, r, cr, rfl, h1, h2, hb⟩
      exact ⟨_, rfl, hb, _, _, rfl, nc_of h1, nc_of h2⟩
    by_cases h1 : (trimL l2).length = 1
    · exact (divMod_one p1 p2 c1 c2 l1 l2 w r1 r2 (by omega) (by omega) hge h1).mono hfin
    · exact (divMod_big p1 p2 c1 c2 _ _ l1 l2 w r1 r2 (by omega) (by omega) hge rfl rfl (by omega)).mono hfin
theorem mk_trim {w : World} {a : Value} {n : Nat} (ha : NI w a n) : Calls Tryz.prog 157 #[a] w (fun e w' => ∃ v, e = .returned v ∧ NC w v n ∧ w' = w) := by
  obtain ⟨p1, c1, l1, rfl, r1, q1, rfl, k1⟩ := ha
  refine (trim_any p1 c1 l1 w r1 (by omega)).mono ?_
  rintro e w' ⟨rfl, rfl⟩
  have h := lim_val b64_two r1.all
  exact ⟨_, rfl, ⟨p1, c1, by rw [h], by rw [h]; exact row_trim r1, q1⟩, rfl⟩
theorem mk_clone {w : World} {a : Value} {n : Nat} (ha : NC w a n) (hn : (limB B64 n).length < 400000000) : Calls Tryz.prog 173 #[a] w (Makes w fun v w' => NC w' v n) := by
  obtain ⟨p1, c1, rfl, r1, q1⟩ := ha
  refine (clone_any p1 c1 (limB B64 n) w r1 q1 (by omega)).mono ?_
  rintro e w' ⟨q, cq, rfl, ho, hb⟩
  exact ⟨_, rfl, hb, nc_of ho⟩
theorem NI.len {w : World} {v : Value} {n : Nat} (h : NI w v n) : (limB B64 n).length < 400000000 := by
  obtain ⟨p, c, l, h1, h2, h3, h4, h5⟩ := h
  rw [← h4, lim_val b64_two h2.all]
  have := trim_len l
  omega
theorem NC.ni' {w : World} {v : Value} {n : Nat} (h : NC w v n) (hn : (limB B64 n).length < 400000000) : NI w v n := by
  obtain ⟨p, c, h1, h2, h3⟩ := h
  exact ⟨p, c, limB B64 n, h1, h2, h3, val_lim b64_two n, hn⟩
theorem len_mono {m n : Nat} (h : m ≤ n) : (limB B64 m).length ≤ (limB B64 n).length := lim_len b64_two (Nat.lt_of_le_of_lt h (lim_lt b64_two (Nat.le_refl _)))
/-- The rounds of Gcd. -/
def GcdRel (w : World) (G gf : Nat) (a b : Value) (W : World) : Prop := ∃ x y, NC W a x ∧ NC W b y ∧ Nat.gcd x y = G ∧ y ≤ gf ∧ (limB B64 x).length < 400000000 ∧ (limB B64 y).length < 400000000 ∧ Bel w W
set_option maxHeartbeats 1000000 in
set_option maxRecDepth 100000 in
theorem mk_gcd {w : World} {a b : Value} {m n : Nat} (ha : NI w a m) (hb : NI w b n) : Calls Tryz.prog 135 #[a, b] w (Makes w fun v w' => NC w' v (Nat.gcd m n)) := by
  have HA := Lib.hid ha
  have HB := Lib.hid hb
  have HA1 := Lib.hid ha.len
  have HB1 := Lib.hid hb.len
  have HT1 := Lib.hid (mk_trim ha)
  have HT2 : Hid (∀ X, Bel w X → _) := fun X hX => mk_trim (hb.bel hX)
  obtain ⟨p1, c1, l1, rfl, r1, q1, h1, k1⟩ := ha
  obtain ⟨p2, c2, l2, rfl, r2, q2, h2, k2⟩ := hb
  obtain ⟨n1, hn1⟩ : ∃ n, l1.length = n := ⟨_, rfl⟩
  obtain ⟨n2, hn2⟩ : ∃ n, l2.length = n := ⟨_, rfl⟩
  obtain ⟨G, hG⟩ : ∃ G, Nat.gcd m n = G := ⟨_, rfl⟩
  have HG := Lib.hid hG
  rw [hn1] at HT1
  rw [hn2] at HT2
  rw [hn1, hn2, hG]
  clear HA HB r1 r2 q1 q2 h1 h2 k1 k2 hn1 hn2 hG
  go_enter Tryz.func135, Tryz.ntmps135
  go_wp2_with (first
    | (go_at_call 157; first
        | ((with_reducible refine (HT1.out).mono ?_); rintro e w3 ⟨v3, rfl, hv3, hw3⟩; obtain rfl := hw3.symm; clear hw3; have HV3 := Lib.hid hv3; clear hv3)
        | ((with_reducible refine (HT2.out _ HB4.out).mono ?_); rintro e w5 ⟨v5, rfl, hv5, hw5⟩; obtain rfl := hw5.symm; clear hw5; have HV5 := Lib.hid hv5; clear hv5))
    | (go_at_call 173; (with_reducible refine (mk_clone HV3.out HA1.out).mono ?_); rintro e w4 ⟨v4, rfl, hb4, hv4⟩; have HB4 := Lib.hid hb4; have HV4 := Lib.hid hv4; clear hb4 hv4))
  go_loopg [0, 1] n (fun gf s0 s1 wx => GcdRel w G gf s0 s1 wx)
  case atStart => exact ⟨m, n, HV4.out, HV5.out, HG.out, Nat.le_refl _, HA1.out, HB1.out, HB4.out⟩
  case round =>
    obtain ⟨x, y, a1, a2, a3, a4, a5, a6, a7⟩ := hrel
    have A1 := Lib.hid a1
    have A2 := Lib.hid a2
    have A3 := Lib.hid a3
    have A5 := Lib.hid a5
    have A6 := Lib.hid a6
    have A7 := Lib.hid a7
    obtain ⟨px, cx, rfl, _, _⟩ := a1
    obtain ⟨py, cy, rfl, _, _⟩ := a2
    obtain ⟨nx, hnx⟩ : ∃ n, (limB B64 x).length = n := ⟨_, rfl⟩
    obtain ⟨ny, hny⟩ : ∃ n, (limB B64 y).length = n := ⟨_, rfl⟩
    rw [hnx] at A1 a5
    rw [hny] at A2 a6
    rw [hnx, hny]
    have HNY := Lib.hid hny
    by_cases h0 : y = 0
    · have hz : ny = 0 := by rw [← hny, h0, lim_zero]; rfl
      have HX : Hid (x = G) := by unfold Hid; rw [← A3.out, h0, Nat.gcd_zero_right]
      subst hz
      clear a3 a5 a6 a7 hnx hny h0
      go_wp2
      go_ret
      exact ⟨_, rfl, A7.out, by rw [← HX.out]; exact A1.out⟩
    · have hz : 0 < ny := by
        rw [← hny]
        exact List.length_pos_iff.2 fun h => h0 ((lim_nil b64_two).1 h)
      obtain ⟨gk', rfl⟩ : ∃ g, gk = g + 1 := ⟨gk - 1, by omega⟩
      have hmod := Nat.mod_lt x (by omega : 0 < y)
      have HM := Lib.hid hmod
      have HD : Hid (∀ X, Bel _ X → _) := fun X (hX : Bel wr X) => mk_divMod ((A1.out.ni' A5.out).bel hX) ((A2.out.ni' A6.out).bel hX) h0
      have hd : decide ((0 : Int) < (ny : Int)) = true := decide_eq_true (by omega)
      clear a3 a5 a6 a7 hnx hny h0
      go_wp2_with (first
        | (go_at_call 174; (with_reducible refine (HD.out _ (Bel.refl _)).mono ?_); rintro e w3 ⟨v, rfl, hb3, q, r, rfl, hq3, hr3⟩; have HB3 := Lib.hid hb3; have HR3 := Lib.hid hr3; clear hb3 hq3 hr3)
        | (go_at_call 173; (with_reducible refine (mk_clone (A2.out.bel HB3.out) A6.out).mono ?_); rintro e w4 ⟨v4, rfl, hb4, hv4⟩; have HB4 := Lib.hid hb4; have HV4 := Lib.hid hv4; clear hb4 hv4))
      go_roundg gk'
      case measure => omega
      case rel =>
        exact ⟨y, x % y, HV4.out, HR3.out.bel HB4.out, by rw [Nat.gcd_comm, ← Nat.gcd_rec, Nat.gcd_comm]; exact A3.out, by have := HM.out; omega, A6.out, Nat.lt_of_le_of_lt (len_mono (Nat.le_of_lt HM.out)) A6.out, A7.out.trans (HB3.out.trans HB4.out)⟩
end Go.Proofs.YtafmfnpjhhaikaaGreatDoor
