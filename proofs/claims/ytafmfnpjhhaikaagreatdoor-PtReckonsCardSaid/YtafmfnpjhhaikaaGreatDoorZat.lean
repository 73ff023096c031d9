/-
  As XFlow's region_flow: with new boxes, each of them another one than the others, and with operations that may come behind the last ones as well.
-/
import Derived.Test.YtafmfnpjhhaikaaGreatDoorZan
import Derived.Test.YtafmfnpjhhaikaaGreatDoorZas
import Derived.Test.YtafmfnpjhhaikaaGreatDoorZao
import Derived.Test.YtafmfnpjhhaikaaGreatDoorCards
import Derived.Test.YtafmfnpjhhaikaaGreatDoorTie
import Derived.ProofKit
import Derived.LaidMore
import Derived.OpenShut
import Derived.Stop.Joined
import Derived.LaidSub
import Derived.SevenTiedAt
import Derived.Lib.LaidTab
import Derived.Deep.Slices
import Derived.Deep.Strs
import Derived.Lay
namespace Go.Proofs.YtafmfnpjhhaikaaGreatDoor
open Go
variable {P : Program} {ops : Array Oper} {md : Region.Mode} {w0 : World}
def flowF (P : Program) (ops : Array Oper) (w0 : World) (T : Act → Facts → Prop) : List (List Nat) → List Oper → List Spec → Nat → Act → Facts → Prop
  | ds :: D, o :: os, .is c :: ss, i, a, F => (∀ w, Bel w0 w → Known F ds w → if Region.wanted o (yielded ops a.tmps) = true then gives P o a w (fun v _ => v = c) else undef = c) ∧ flowF P ops w0 T D os ss (i + 1) (a.put o.dst c) F
  | ds :: D, o :: os, .has Φ :: ss, i, a, F => (∀ w, Bel w0 w → Known F ds w → if Region.wanted o (yielded ops a.tmps) = true then gives P o a w Φ else Φ undef w) ∧ ∀ v, flowF P ops w0 T D os ss (i + 1) (a.put o.dst v) ((i, v, Φ) :: F)
  | _, _, _, _, a, F => T a F
theorem flowF_flow {T : Act → Facts → Prop} : ∀ (ss : List Spec) (D : List (List Nat)) (os : List Oper) (i : Nat) (a : Act) (F : Facts), flowF P ops w0 T D os ss i a F → flow P ops w0 (fun _ _ => True) D os ss i a F
  | [], D, os, _, _, _, _ => by cases D <;> cases os <;> trivial
  | s :: ss, [], os, _, _, _, _ => by cases os <;> cases s <;> trivial
  | s :: ss, _ :: _, [], _, _, _, _ => by cases s <;> trivial
  | .is c :: ss, ds :: D, o :: os, i, a, F, h => ⟨h.1, flowF_flow ss D os (i + 1) _ F h.2⟩
  | .has Φ :: ss, ds :: D, o :: os, i, a, F, h => ⟨h.1, fun v => flowF_flow ss D os (i + 1) _ _ (h.2 v)⟩
theorem flowF_end {T : Act → Facts → Prop} : ∀ (ss : List Spec) (D : List (List Nat)) (os : List Oper) (i : Nat) (a : Act) (F : Facts) (vs : Nat → Value), os.length = ss.length → D.length = ss.length → Fits ss i vs →
    flowF P ops w0 T D os ss i a F → T (putsL os i vs a) (factsOf ss i vs F) := by
  intro ss
  induction ss with
  | nil =>
    intro D os i a F vs h1 h2 _ h
    obtain rfl : os = [] := List.length_eq_zero_iff.1 h1
    obtain rfl : D = [] := List.length_eq_zero_iff.1 h2
    exact h
  | cons s ss ih =>
    intro D os i a F vs h1 h2 hf h
    cases os with
    | nil => simp at h1
    | cons o os =>
      cases D with
      | nil => simp at h2
      | cons ds D =>
        have hf' : Fits ss (i + 1) vs := fun k c' hk => by have := hf (k + 1) c' (by simpa using hk); rwa [show i + (k + 1) = i + 1 + k by omega] at this
        cases s with
        | is c =>
          simp only [putsL, factsOf]
          have h0 : vs i = c := hf 0 c (by simp)
          rw [h0]
          exact ih D os (i + 1) _ F vs (by simpa using h1) (by simpa using h2) hf' h.2
        | has Φ =>
          simp only [putsL, factsOf]
          exact ih D os (i + 1) _ _ vs (by simpa using h1) (by simpa using h2) hf' (h.2 (vs i))
/-- New boxes are others than those that were. -/
def freshUpon (w : World) : Result Next → Prop
  | .ok (.value v) _ => ∃ X, v = .pointer (some ⟨X, 0, none⟩) ∧ w.heap.size ≤ X
  | .ok _ _ => False
  | _ => True
def Fresh (P : Program) (o : Oper) : Prop := ∀ (e : Operand → Value) (w : World), freshUpon w ((execOp e o).run P w)
def Lies (Φ : Value → World → Prop) : Prop := ∀ v w, Φ v w → ∃ X, v = .pointer (some ⟨X, 0, none⟩) ∧ X < w.heap.size
def apartFrom (N : List Nat) (v : Value) : Facts → Prop
  | [] => True
  | (j, u, _) :: F => (match N.contains j with | true => v ≠ u | false => True) ∧ apartFrom N v F
def Apart (N : List Nat) : Facts → Prop
  | [] => True
  | (i, v, _) :: F => (match N.contains i with | true => apartFrom N v F | false => True) ∧ Apart N F
theorem apartFrom_of {N : List Nat} {v : Value} : ∀ (F : Facts), (∀ j u Φ, (j, u, Φ) ∈ F → j ∈ N → v ≠ u) → apartFrom N v F
  | [], _ => trivial
  | (j, u, Φ) :: F, h => ⟨by
      cases hc : N.contains j
      · trivial
      · exact h j u Φ List.mem_cons_self (by simpa using hc), apartFrom_of F fun j u Φ hm hj => h j u Φ (List.mem_cons_of_mem _ hm) hj⟩
theorem apart_of {N : List Nat} : ∀ (ss : List Spec) (i : Nat) (vs : Nat → Value) (F : Facts), (∀ j u Φ, (j, u, Φ) ∈ F → j < i ∧ u = vs j) → (∀ j k, j ∈ N → k ∈ N → j ≠ k → j < i + ss.length → k < i + ss.length → vs j ≠ vs k) → Apart N F → Apart N (factsOf ss i vs F)
  | [], _, _, _, _, _, h => h
  | .is c :: ss, i, vs, F, hF, hd, h => apart_of ss (i + 1) vs F (fun j u Φ hm => ⟨by have := (hF j u Φ hm).1; omega, (hF j u Φ hm).2⟩) (fun j k h1 h2 h3 h4 h5 => hd j k h1 h2 h3 (by simp; omega) (by simp; omega)) h
  | .has Φ :: ss, i, vs, F, hF, hd, h => apart_of ss (i + 1) vs _ (fun j u Φ hm => by
      rcases List.mem_cons.1 hm with hm | hm
      · simp only [Prod.mk.injEq] at hm
        obtain ⟨rfl, rfl, rfl⟩ := hm
        exact ⟨by omega, rfl⟩
      · exact ⟨by have := (hF j u Φ hm).1; omega, (hF j u Φ hm).2⟩) (fun j k h1 h2 h3 h4 h5 => hd j k h1 h2 h3 (by simp; omega) (by simp; omega)) ⟨by
      cases hc : N.contains i
      · trivial
      · refine apartFrom_of F fun j u Φ hm hj => ?_
        obtain ⟨h1, rfl⟩ := hF j u Φ hm
        exact hd i j (by simpa using hc) hj (by omega) (by simp) (by simp; omega), h⟩
/-! ### Holes -/
def subs : List Nat → List (List Nat)
  | [] => [[]]
  | x :: l => subs l ++ (subs l).map (x :: ·)
theorem filter_subs (p : Nat → Bool) : ∀ l, l.filter p ∈ subs l
  | [] => by simp [subs]
  | x :: l => by
    simp only [subs, List.mem_append, List.mem_map, List.filter_cons]
    cases p x
    · exact .inl (filter_subs p l)
    · exact .inr ⟨_, filter_subs p l, rfl⟩
def holesL (n k : Nat) (U : List Nat) : Array Bool := (Array.range n).map fun i => decide (i < k) && !U.contains i
/-- How the region must be made: nothing is written twice, each reads what it waits for, the last ones wait for all but the holes. -/
def flowNB (md : Region.Mode) (ops : Array Oper) (nq : Nat) (H : List Nat) (D : List (List Nat)) : Bool :=
  Region.noSelect ops && decide (nq ≤ ops.size) && (D.length == nq) &&
  ((List.range nq).all fun i => opAt ops i fun o => (o.after.all fun e => !Region.binds md e || decide (e.on < i)) &&
    ((D.getD i []).all fun k => decide (k < i) && reachF md ops k 8 o) &&
    (List.range nq).all fun k => opAt ops k fun o' => (match o'.dst with
      | none => true
      | some t => (k == i || o.dst != some t) && (!(o.looksAt ops).contains t || (D.getD i []).contains k))) &&
  ((List.range ops.size).all fun m => decide (m < nq) || opAt ops m fun o => (List.range nq).all fun i => H.contains i || reachF md ops i 8 o) &&
  tailB md ops (ops.size - nq) nq && (H.all fun j => decide (j < nq)) &&
  ((subs H).all fun U => U.all fun j => (U.any fun k => decide (k < j)) || Region.free md ops (holesL ops.size nq U) j)
structure FormN (md : Region.Mode) (ops : Array Oper) (nq : Nat) (H : List Nat) (D : List (List Nat)) : Prop where
  sel : Region.noSelect ops = true
  le : nq ≤ ops.size
  len : D.length = nq
  op : ∀ i, i < nq → ∃ o, ops[i]? = some o
  back : ∀ i o, i < nq → ops[i]? = some o → ∀ e ∈ o.after, Region.binds md e = true → e.on < i
  dep : ∀ i o, i < nq → ops[i]? = some o → ∀ k ∈ D.getD i [], k < i ∧ reachF md ops k 8 o = true
  once : ∀ i o k o', i < nq → ops[i]? = some o → k < nq → ops[k]? = some o' → k ≠ i → ∀ t, o'.dst = some t → o.dst ≠ some t
  reads : ∀ i o k o', i < nq → ops[i]? = some o → k < nq → ops[k]? = some o' → ∀ t, o'.dst = some t → t ∈ o.looksAt ops → k ∈ D.getD i []
  tail : ∀ m o i, nq ≤ m → ops[m]? = some o → i < nq → i ∉ H → reachF md ops i 8 o = true
  hlt : ∀ j ∈ H, j < nq
  free : ∀ U ∈ subs H, ∀ j ∈ U, (∀ k ∈ U, j ≤ k) → Region.free md ops (holesL ops.size nq U) j = true
  line : tailB md ops (ops.size - nq) nq = true
theorem formN_of {nq : Nat} {H : List Nat} {D : List (List Nat)} (h : flowNB md ops nq H D = true) : FormN md ops nq H D := by
  simp only [flowNB, Bool.and_eq_true, decide_eq_true_eq, beq_iff_eq] at h
  obtain ⟨⟨⟨⟨⟨⟨⟨h1, h2⟩, h3⟩, h4⟩, h5⟩, h6⟩, hh1⟩, hh2⟩ := h
  have g : ∀ i o, i < nq → ops[i]? = some o → ((o.after.all fun e => !Region.binds md e || decide (e.on < i)) &&
    ((D.getD i []).all fun k => decide (k < i) && reachF md ops k 8 o) &&
    (List.range nq).all fun k => opAt ops k fun o' => (match o'.dst with
      | none => true
      | some t => (k == i || o.dst != some t) && (!(o.looksAt ops).contains t || (D.getD i []).contains k))) = true := fun i o hi ho => by
    obtain ⟨o', ho', hp⟩ := opAt_of (List.all_eq_true.1 h4 i (List.mem_range.2 hi))
    rw [ho] at ho'
    cases ho'
    exact hp
  refine ⟨h1, h2, h3, fun i hi => ?_, fun i o hi ho e he hb => ?_, fun i o hi ho k hk => ?_, fun i o k o' hi ho hk ho' hne t ht hc => ?_, fun i o k o' hi ho hk ho' t ht hl => ?_, fun m o i hm ho hi hne => ?_, fun j hj => by simpa using List.all_eq_true.1 hh1 j hj, fun U hU j hj hm => ?_, h6⟩
  · obtain ⟨o', ho', _⟩ := opAt_of (List.all_eq_true.1 h4 i (List.mem_range.2 hi))
    exact ⟨o', ho'⟩
  · have := g i o hi ho
    simp only [Bool.and_eq_true] at this
    have h7 := Array.all_eq_true_iff_forall_mem.1 this.1.1 e he
    simp only [Bool.or_eq_true, Bool.not_eq_true', decide_eq_true_eq] at h7
    rcases h7 with h7 | h7
    · rw [hb] at h7; cases h7
    · exact h7
  · have := g i o hi ho
    simp only [Bool.and_eq_true] at this
    have h7 := List.all_eq_true.1 this.1.2 k hk
    simpa using h7
  · have := g i o hi ho
    simp only [Bool.and_eq_true] at this
    obtain ⟨o2, ho2, hp⟩ := opAt_of (List.all_eq_true.1 this.2 k (List.mem_range.2 hk))
    rw [ho'] at ho2
    cases ho2
    simp only [ht, Bool.and_eq_true, Bool.or_eq_true, beq_iff_eq, bne_iff_ne] at hp
    rcases hp.1 with h8 | h8
    · exact hne h8
    · exact h8 hc
  · have := g i o hi ho
    simp only [Bool.and_eq_true] at this
    obtain ⟨o2, ho2, hp⟩ := opAt_of (List.all_eq_true.1 this.2 k (List.mem_range.2 hk))
    rw [ho'] at ho2
    cases ho2
    simp only [ht, Bool.and_eq_true, Bool.or_eq_true, Bool.not_eq_true', List.contains_eq_mem, decide_eq_true_eq, decide_eq_false_iff_not] at hp
    rcases hp.2 with h8 | h8
    · exact absurd hl h8
    · exact h8
  · have h7 := List.all_eq_true.1 h5 m (List.mem_range.2 (Array.getElem?_eq_some_iff.1 ho).1)
    simp only [Bool.or_eq_true, decide_eq_true_eq] at h7
    rcases h7 with h7 | h7
    · omega
    · obtain ⟨o2, ho2, hp⟩ := opAt_of h7
      rw [ho] at ho2
      cases ho2
      have := List.all_eq_true.1 hp i (List.mem_range.2 hi)
      simp only [Bool.or_eq_true, List.contains_eq_mem, decide_eq_true_eq] at this
      exact this.resolve_left hne
  · have := List.all_eq_true.1 (List.all_eq_true.1 hh2 U hU) j hj
    simp only [Bool.or_eq_true] at this
    rcases this with h8 | h8
    · obtain ⟨k, hk, hkj⟩ := List.any_eq_true.1 h8
      have h9 := hm k hk
      simp at hkj
      omega
    · exact h8
/-- What a hole must be: it takes nothing of the world. -/
def Hole (P : Program) (Q : Exit → Act → World → Prop) (ops : Array Oper) (ss : List Spec) (j : Nat) : Prop :=
  ∃ oh c, ops[j]? = some oh ∧ ss[j]? = some (.is c) ∧ (∀ (a : Act) (w : World) (c : Value), gives P oh a w (fun v _ => v = c) → ∀ w', (execOp a.eval oh).run P w' = .ok (.value c) w') ∧ ∀ v c a w, Q (.panic c) (Act.put a oh.dst v) w → Q (.panic c) a w
/-- What a new box must be. -/
def New (P : Program) (ops : Array Oper) (ss : List Spec) (j : Nat) : Prop := ∃ o Φ, ops[j]? = some o ∧ Fresh P o ∧ ss[j]? = some (.has Φ) ∧ Lies Φ
structure InvN (md : Region.Mode) (ops : Array Oper) (nq : Nat) (N : List Nat) (os : List Oper) (ss : List Spec) (w0 : World) (a0 : Act) (listed : Array Bool) (a : Act) (w : World) : Prop where
  size : listed.size = ops.size
  shut : Shut md ops listed
  bel : Bel w0 w
  late : ∀ j, nq ≤ j → listed.getD j false = false
  vals : ∃ vs, Fits ss 0 vs ∧ a = putsM os 0 (fun i => listed.getD i false) vs a0 ∧ (∀ i s, i < nq → listed.getD i false = true → ss[i]? = some s → s.ok (vs i) w) ∧ ∀ j k, j ∈ N → k ∈ N → j ≠ k → listed.getD j false = true → listed.getD k false = true → vs j ≠ vs k
theorem flow_anyN {Q : Exit → Act → World → Prop} {T : Act → Facts → Prop} {nq : Nat} {H N : List Nat} {D : List (List Nat)} {os : List Oper} {ss : List Spec} {a0 : Act} {s : Nat} (hF : FormN md ops nq H D) (hH : ∀ j ∈ H, Hole P Q ops ss j) (hN : ∀ j ∈ N, New P ops ss j) (hos : ∀ k, k < nq → os[k]? = ops[k]?) (hol : os.length = nq) (hsl : ss.length = nq)
    (hst : Steady ss) (hfl : flowF P ops w0 T D os ss 0 a0 []) (hT : ∀ a F, T a F → ∀ w, Bel w0 w → All F w → Apart N F → wpAny P md ops Q s (firstN ops.size nq) a w) :
    ∀ (c : Nat) (listed : Array Bool) (a : Act) (w : World), cnt (fun i => listed.getD i false) nq = c → InvN md ops nq N os ss w0 a0 listed a w → wpAny P md ops Q (c + s) listed a w := by
  intro c
  induction c with
  | zero =>
    intro listed a w hc hI
    obtain ⟨vs, hfit, rfl, hok, hap⟩ := hI.vals
    have hall := cnt_zero hc
    have hl : listed = firstN ops.size nq := by
      refine Array.ext (by rw [hI.size]; simp [firstN]) fun i h1 h2 => ?_
      have e : listed[i] = listed.getD i false := by simp [h1]
      rw [e]
      simp only [firstN, Array.getElem_map, Array.getElem_range]
      by_cases hi : i < nq
      · rw [hall i hi]; simp [hi]
      · rw [hI.late i (by omega)]; simp [hi]
    have hend := flowF_end ss D os 0 a0 [] vs (by omega) (by rw [hF.len]; omega) hfit hfl
    rw [Nat.zero_add]
    rw [putsM_all os 0 _ vs a0 (fun k _ hk => hall k (by omega)), hl]
    refine hT _ _ hend w hI.bel (all_of ss 0 vs [] w trivial fun k Φ hk => ?_) (apart_of ss 0 vs [] (fun _ _ _ h => by cases h) (fun j k h1 h2 h3 h4 h5 => hap j k h1 h2 h3 (hall j (by omega)) (hall k (by omega))) trivial)
    rw [Nat.zero_add]
    have hkn : k < nq := by have := (List.getElem?_eq_some_iff.1 hk).1; omega
    exact hok k (.has Φ) hkn (hall k hkn) hk
  | succ c ih =>
    intro listed a w hc hI
    obtain ⟨i0, hi0, hun, hlow⟩ := cnt_pos (f := fun i => listed.getD i false) (n := nq) (by omega)
    have untrue : ∀ {i : Nat}, i < ops.size → listed.getD i false = false → listed.getD i true = false := fun {i} hi h => by
      have : i < listed.size := by rw [hI.size]; exact hi
      simp [this] at h ⊢
      exact h
    have hready : i0 ∈ Region.ready md ops listed := by
      obtain ⟨o, ho⟩ := hF.op i0 hi0
      exact mem_ready.2 ⟨untrue (by have := hF.le; omega) hun, o, ho, fun e he hb => hlow e.on (hF.back i0 o hi0 ho e he hb)⟩
    have hcase : (∀ i, i < nq → listed.getD i false = false → i ∈ H) ∨ ∃ i1, i1 < nq ∧ listed.getD i1 false = false ∧ i1 ∉ H := by
      by_cases h : ∃ i1, i1 < nq ∧ listed.getD i1 false = false ∧ i1 ∉ H
      · exact .inr h
      · exact .inl fun i h1 h2 => Decidable.byContradiction fun h3 => h ⟨i, h1, h2, h3⟩
    have hmain : ∀ j, j ∈ Region.ready md ops listed → j < nq → (j ∈ H → Region.free md ops listed j = true → wpAny P md ops Q (c + 1 + s) listed a w) ∧ wpOp P ops Q j (wpAny P md ops Q (c + s) (listed.setIfInBounds j true)) a w := by
      intro j hj hjn
      obtain ⟨hjun, oj, hoj, hall⟩ := mem_ready.1 hj
      have hjun' : listed.getD j false = false := by
        have : j < listed.size := by rw [hI.size]; have := hF.le; omega
        simp [this] at hjun ⊢
        exact hjun
      obtain ⟨vs, hfit, rfl, hok, hap⟩ := hI.vals
      obtain ⟨sj, hsj⟩ : ∃ s, ss[j]? = some s := ⟨_, List.getElem?_eq_getElem (by omega)⟩
      obtain ⟨dj, hdj⟩ : ∃ d, D[j]? = some d := ⟨_, List.getElem?_eq_getElem (by rw [hF.len]; omega)⟩
      have hdj' : D.getD j [] = dj := by rw [List.getD_eq_getElem?_getD, hdj]; rfl
      have hoj' : os[j]? = some oj := (hos j hjn).trans hoj
      have hlist : ∀ k, k ∈ dj → k < j ∧ listed.getD k false = true := fun k hk => by
        have h1 := hF.dep j oj hjn hoj k (by rw [hdj']; exact hk)
        exact ⟨h1.1, reachF_listed hI.shut 8 oj hall h1.2⟩
      have hvc := flow_at D os ss 0 a0 [] vs hfit (flowF_flow _ _ _ _ _ _ hfl) j oj sj dj hoj' hsj hdj w hI.bel (known_of (ss.take j) 0 vs [] dj w trivial fun k Φ hk hkd => by
        rw [Nat.zero_add] at hkd ⊢
        obtain ⟨h1, h2⟩ := hlist k hkd
        rw [List.getElem?_take, if_pos h1] at hk
        exact hok k (.has Φ) (by omega) h2 hk)
      have hslots : ∀ t ∈ oj.looksAt ops, (putsL (os.take j) 0 vs a0).tmps[t]? = (putsM os 0 (fun i => listed.getD i false) vs a0).tmps[t]? := by
        intro t ht
        rw [putsL_take]
        refine slot_congr os 0 t _ _ vs a0 a0 rfl rfl fun k o hk hdst => ?_
        have hkn : k < nq := by have := (List.getElem?_eq_some_iff.1 hk).1; omega
        have h1 := hF.reads j oj k o hjn hoj hkn ((hos k hkn).symm.trans hk) t hdst ht
        rw [hdj'] at h1
        obtain ⟨h2, h3⟩ := hlist k h1
        rw [Nat.zero_add, h3]
        simp [h2]
      have hset : ∀ k, (listed.setIfInBounds j true).getD k false = if k = 0 + j then true else listed.getD k false := fun k => by
        rw [Nat.zero_add]
        by_cases hk : k = j
        · subst hk
          have : k < listed.size := by rw [hI.size]; have := hF.le; omega
          simp [this]
        · rw [if_neg hk, getD_set_ne false (Ne.symm hk)]
      have hstep : ∀ u w', Bel w w' → sj.ok u w' → (j ∈ N → ∃ X, u = .pointer (some ⟨X, 0, none⟩) ∧ w.heap.size ≤ X) → wpAny P md ops Q (c + s) (listed.setIfInBounds j true) ((putsM os 0 (fun i => listed.getD i false) vs a0).put oj.dst u) w' := by
        intro u w' hw' hu hnew
        have hold : ∀ k, k ∈ N → listed.getD k false = true → j ∈ N → vs k ≠ u := fun k hk hkl hjN he => by
          obtain ⟨X, h1, h2⟩ := hnew hjN
          obtain ⟨o, Φ, -, -, h5, h6⟩ := hN k hk
          have hkn : k < nq := by have := (List.getElem?_eq_some_iff.1 h5).1; omega
          obtain ⟨Y, h7, h8⟩ := h6 _ _ (hok k _ hkn hkl h5)
          rw [h7, h1] at he
          simp only [Value.pointer.injEq, Option.some.injEq, Addr.mk.injEq, and_true] at he
          omega
        refine ih _ _ _ ?_ ⟨by rw [Array.size_setIfInBounds]; exact hI.size, hI.shut.add hj, hI.bel.trans hw', fun k hk => ?_, fun k => if k = 0 + j then u else vs k, fun k c' hk => ?_, ?_, fun i s' hi hl hs' => ?_, fun i k hi hk hne hli hlk => ?_⟩
        · have := (cnt_set (f := fun i => listed.getD i false) (g := fun i => (listed.setIfInBounds j true).getD i false) (j := j) hjun' (by simp only [hset]; rw [if_pos (by omega)]) (fun k hk => by simp only [hset]; rw [if_neg (by omega)]) (n := nq)).2 hjn
          omega
        · rw [hset, if_neg (by omega)]; exact hI.late k hk
        · dsimp only
          rw [Nat.zero_add, Nat.zero_add]
          split
          · rename_i he
            rw [he, hsj] at hk
            simp only [Option.some.injEq] at hk
            subst hk
            exact hu
          · have := hfit k c' hk; rwa [Nat.zero_add] at this
        · rw [putsM_set os 0 j _ vs a0 oj u hoj' (by rw [Nat.zero_add]; exact hjun') (fun k o' hk hne t ht hc => by
            have hkn : k < nq := by have := (List.getElem?_eq_some_iff.1 hk).1; omega
            exact hF.once k o' j oj hkn ((hos k hkn).symm.trans hk) hjn hoj (Ne.symm hne) t ht hc)]
          congr 1
          funext k
          rw [hset]
        · rw [hset, Nat.zero_add] at hl
          dsimp only
          rw [Nat.zero_add]
          split
          · rename_i he
            rw [he, hsj] at hs'
            simp only [Option.some.injEq] at hs'
            subst hs'
            exact hu
          · rename_i he
            rw [if_neg he] at hl
            exact steady_at hst hs' _ _ _ (hok i s' hi hl hs') hw'
        · rw [hset, Nat.zero_add] at hli hlk
          dsimp only
          rw [Nat.zero_add]
          by_cases h1 : i = j
          · have h2 : k ≠ j := fun h => hne (h1.trans h.symm)
            rw [if_pos h1, if_neg h2]
            rw [if_neg h2] at hlk
            exact (hold k hk hlk (h1 ▸ hi)).symm
          · rw [if_neg h1]
            rw [if_neg h1] at hli
            by_cases h2 : k = j
            · rw [if_pos h2]
              exact hold i hi hli (h2 ▸ hk)
            · rw [if_neg h2]
              rw [if_neg h2] at hlk
              exact hap i k hi hk hne hli hlk
      refine ⟨fun hh hfree => ?_, ?_⟩
      · obtain ⟨oh, c1, h1, h2, hpure, hQ⟩ := hH j hh
        rw [hoj] at h1
        cases h1
        rw [hsj] at h2
        cases h2
        unfold VC at hvc
        rw [wanted_congr hslots] at hvc
        rw [show c + 1 + s = c + s + 1 by omega]
        refine wpAny_take (i := j) (oi := oj) (v := c1) hoj hF.sel hfree (by simpa using hj) (fun c a w => hQ _ c a w) ?_ (hstep c1 w (Bel.refl w) rfl fun hjN => ?_)
        · by_cases hwn : Region.wanted oj (yielded ops (putsM os 0 (fun i => listed.getD i false) vs a0).tmps) = true
          · rw [if_pos hwn] at hvc
            refine .inl ⟨hwn, fun w' => ?_⟩
            have := hpure _ _ _ hvc w'
            rwa [execOp_congr oj (fun cs b => Region.noSelect_spec hF.sel j oj cs b hoj) (eval_congr hslots)] at this
          · rw [if_neg hwn] at hvc
            exact .inr ⟨by simpa using hwn, hvc.symm⟩
        · obtain ⟨o, Φ, -, -, h5, -⟩ := hN j hjN
          rw [hsj] at h5
          cases h5
      · unfold wpOp
        rw [hoj]
        dsimp only
        unfold VC at hvc
        rw [wanted_congr hslots] at hvc
        by_cases hwn : Region.wanted oj (yielded ops (putsM os 0 (fun i => listed.getD i false) vs a0).tmps) = true
        · rw [if_pos hwn] at hvc ⊢
          refine .inl ?_
          have hfr : j ∈ N → freshUpon w ((execOp (putsM os 0 (fun i => listed.getD i false) vs a0).eval oj).run P w) := fun hjN => by
            obtain ⟨o, Φ, h1, h2, -, -⟩ := hN j hjN
            rw [hoj] at h1
            cases h1
            exact h2 _ _
          unfold gives at hvc
          unfold Oper.wp
          rw [execOp_congr oj (fun cs b => Region.noSelect_spec hF.sel j oj cs b hoj) (eval_congr hslots)] at hvc
          generalize (execOp (putsM os 0 (fun i => listed.getD i false) vs a0).eval oj).run P w = r at hvc hfr ⊢
          cases r with
          | halt x w' => exact hvc.elim
          | ok x w' =>
            cases x <;> simp only [givesUpon] at hvc <;> simp only [Oper.upon]
            case value u => exact hstep u w' hvc.1 hvc.2 hfr
            case skip => exact hstep undef w' hvc.1 hvc.2 (fun h => (hfr h).elim)
            case enter f args =>
              refine hvc.mono fun e w'' he => ?_
              obtain ⟨u, rfl, h1, h2⟩ := he
              exact hstep u w'' h1 h2 (fun h => (hfr h).elim)
        · rw [if_neg hwn] at hvc ⊢
          refine hstep undef w (Bel.refl w) hvc (fun hjN => ?_)
          obtain ⟨o, Φ, -, -, h5, h6⟩ := hN j hjN
          rw [hsj] at h5
          cases h5
          obtain ⟨X, h7, -⟩ := h6 _ _ hvc
          cases h7
    rcases hcase with hall | ⟨i1, hi1, hun1, hne1⟩
    · have hl : listed = holesL ops.size nq (H.filter fun i => !listed.getD i false) := by
        refine Array.ext (by rw [hI.size]; simp [holesL]) fun i h1 h2 => ?_
        have e : listed[i] = listed.getD i false := by simp [h1]
        rw [e]
        simp only [holesL, Array.getElem_map, Array.getElem_range]
        by_cases hi : i < nq
        · cases hli : listed.getD i false
          · have h1 := hall i hi hli
            have h2 : listed[i]?.getD false = false := by simpa using hli
            simp [hi, h1, h2]
          · have h2 : listed[i]?.getD false = true := by simpa using hli
            simp [hi, h2]
        · rw [hI.late i (by omega)]; simp [hi]
      have h0 : i0 ∈ H.filter fun i => !listed.getD i false := by
        rw [List.mem_filter]
        exact ⟨hall i0 hi0 hun, by rw [hun]; rfl⟩
      refine (hmain i0 hready hi0).1 (hall i0 hi0 hun) ?_
      have := hF.free _ (filter_subs (fun i => !listed.getD i false) H) i0 h0 (fun k hk => by
        rw [List.mem_filter] at hk
        by_cases hki : k < i0
        · rw [hlow k hki] at hk
          simp at hk
        · omega)
      rw [← hl] at this
      exact this
    · rw [Nat.succ_add]
      refine ⟨fun h => (by rw [h] at hready; cases hready), fun j hj => ?_⟩
      obtain ⟨-, oj, hoj, hall⟩ := mem_ready.1 hj
      have hjn : j < nq := by
        by_cases h : j < nq
        · exact h
        · have h1 := reachF_listed hI.shut 8 oj hall (hF.tail j oj i1 (by omega) hoj hi1 hne1)
          rw [h1] at hun1
          cases hun1
      exact (hmain j hj hjn).2
theorem region_flowN {id : Nat} {Q : Exit → Act → World → Prop} {a : Act} {w : World} {l : List Oper} (nq : Nat) (H N : List Nat) (D : List (List Nat)) (ss : List Spec) (hm : P.follows .mixedOrders = true) (hB : flowNB .any l.toArray nq H D = true) (hsl : ss.length = nq) (hH : ∀ j ∈ H, Hole P Q l.toArray ss j) (hN : ∀ j ∈ N, New P l.toArray ss j) (hst : Steady ss)
    (h : flowF P l.toArray w (fun a' F => ∀ w', Bel w w' → All F w' → Apart N F → wpList P l.toArray Q (l.drop nq) a' w') D (l.take nq) ss 0 a []) : (Code.region id l.toArray true).wp P Q a w := by
  have hF := formN_of hB
  have hle : nq ≤ l.length := by simpa using hF.le
  refine wp_region_any hm ?_
  have hcnt : cnt (fun i => (Array.replicate l.toArray.size false).getD i false) nq = nq := by
    have : ∀ n, cnt (fun i => (Array.replicate l.toArray.size false).getD i false) n = n := fun n => by
      induction n with
      | zero => rfl
      | succ n ih => simp only [cnt]; rw [ih, if_neg (by rw [getD_replicate_false]; simp)]
    exact this nq
  have h1 := flow_anyN (Q := Q) (s := l.toArray.size - nq) (os := l.take nq) hF hH hN (fun k hk => by rw [List.getElem?_take, if_pos hk]; simp) (by rw [List.length_take]; omega) hsl hst h
    (fun a' F hT w' hw' hk hap => wpAny_line (l.toArray.size - nq) nq (l.drop nq) a' w' (by simp; omega) (fun j => by rw [List.getElem?_drop]; simp) (by simp) hF.line (hT w' hw' hk hap))
    nq (Array.replicate l.toArray.size false) a { w with drawn := w.drawn + 1 } hcnt
    ⟨by simp, fun j o _ hl => (by rw [getD_replicate_false] at hl; cases hl), (Bel.refl w).drew, fun j _ => getD_replicate_false _ _, fun k => match ss[k]? with | some (.is c) => c | _ => undef, fun k c hk => by rw [Nat.zero_add]; simp only [hk],
      (putsM_none _ _ _ _ _ (fun k _ => getD_replicate_false _ _)).symm, fun i s _ hl => (by rw [getD_replicate_false] at hl; cases hl), fun j k _ _ _ hl => (by rw [getD_replicate_false] at hl; cases hl)⟩
  rw [show nq + (l.toArray.size - nq) = l.toArray.size by simp; omega] at h1
  exact h1
variable {T : Act → Facts → Prop}
/-- What a new box of the call's own is. -/
def NewBox (W : World) (t : Nat) (cs : Array Value) (v : Value) (w : World) : Prop := ∃ X, v = .pointer (some ⟨X, 0, none⟩) ∧ W.heap.size ≤ X ∧ w.heap[X]? = some (.cells cs t (0, 0))
theorem NewBox.bel {W w w' : World} {t : Nat} {cs : Array Value} {v : Value} (h : NewBox W t cs v w) (hb : Bel w w') : NewBox W t cs v w' := by
  obtain ⟨X, h1, h2, h3⟩ := h
  exact ⟨X, h1, h2, hb.heap h3⟩
theorem NewBox.lies {W : World} {t : Nat} {cs : Array Value} : Lies (NewBox W t cs) := fun _ _ h => by
  obtain ⟨X, h1, h2, h3⟩ := h
  exact ⟨X, h1, heap_lt h3⟩
theorem NewBox.new {W w1 : World} {t : Nat} {cs : Array Value} (hw : Bel W w1) : NewBox W t cs (.pointer (some ⟨w1.heap.size, 0, none⟩)) (w1.alloc (.cells cs t)) := ⟨_, rfl, hw.size, heap_alloc_new w1 _⟩
end Go.Proofs.YtafmfnpjhhaikaaGreatDoor
namespace Go.Proofs.YtafmfnpjhhaikaaGreatDoor
open Go
variable {P : Program} {ops : Array Oper} {md : Region.Mode} {w0 : World}
def flowT (P : Program) (ops : Array Oper) (w0 : World) (T : Act → Facts → Prop) (H : List Nat) : List (List Nat) → List Oper → List Spec → Nat → Act → Facts → Prop
  | ds :: D, o :: os, .is c :: ss, i, a, F => (match H.contains i with
      | true => ∀ w', Bel w0 w' → Known F ds w' → ∀ w, Bel w0 w → if Region.wanted o (yielded ops a.tmps) = true then (execOp a.eval o).run P w = .ok (.value c) w else undef = c
      | false => ∀ w, Bel w0 w → Known F ds w → if Region.wanted o (yielded ops a.tmps) = true then gives P o a w (fun v _ => v = c) else undef = c) ∧ flowT P ops w0 T H D os ss (i + 1) (a.put o.dst c) F
  | ds :: D, o :: os, .has Φ :: ss, i, a, F => (∀ w, Bel w0 w → Known F ds w → if Region.wanted o (yielded ops a.tmps) = true then gives P o a w Φ else Φ undef w) ∧ ∀ v, flowT P ops w0 T H D os ss (i + 1) (a.put o.dst v) ((i, v, Φ) :: F)
  | _, _, _, _, a, F => T a F
/-- How the region must be made: nothing is written twice, each reads what it waits for, the last ones wait for all but the holes. -/
def flowTB (md : Region.Mode) (ops : Array Oper) (nq : Nat) (H : List Nat) (D : List (List Nat)) : Bool :=
  Region.noSelect ops && decide (nq ≤ ops.size) && (D.length == nq) &&
  ((List.range nq).all fun i => opAt ops i fun o => (o.after.all fun e => !Region.binds md e || decide (e.on < i)) &&
    ((D.getD i []).all fun k => decide (k < i) && reachF md ops k 8 o) &&
    (List.range nq).all fun k => opAt ops k fun o' => (match o'.dst with
      | none => true
      | some t => (k == i || o.dst != some t) && (!(o.looksAt ops).contains t || (D.getD i []).contains k))) &&
  ((List.range ops.size).all fun m => decide (m < nq) || opAt ops m fun o => (List.range nq).all fun i => H.contains i || reachF md ops i 8 o) &&
  (H.all fun j => decide (j < nq)) &&
  ((List.range ops.size).all fun m => decide (m < nq) || opAt ops m fun o => (o.after.all fun e => !Region.binds md e || decide (e.on < m)) && ((List.range m).all fun i => decide (i < nq) || reachF md ops i 8 o) &&
    (List.range nq).all fun i => opAt ops i fun o' => match o'.dst with
      | none => true
      | some t => !(o.looksAt ops).contains t || reachF md ops i 8 o)
structure FormT (md : Region.Mode) (ops : Array Oper) (nq : Nat) (H : List Nat) (D : List (List Nat)) : Prop where
  sel : Region.noSelect ops = true
  le : nq ≤ ops.size
  len : D.length = nq
  op : ∀ i, i < nq → ∃ o, ops[i]? = some o
  back : ∀ i o, i < nq → ops[i]? = some o → ∀ e ∈ o.after, Region.binds md e = true → e.on < i
  dep : ∀ i o, i < nq → ops[i]? = some o → ∀ k ∈ D.getD i [], k < i ∧ reachF md ops k 8 o = true
  once : ∀ i o k o', i < nq → ops[i]? = some o → k < nq → ops[k]? = some o' → k ≠ i → ∀ t, o'.dst = some t → o.dst ≠ some t
  reads : ∀ i o k o', i < nq → ops[i]? = some o → k < nq → ops[k]? = some o' → ∀ t, o'.dst = some t → t ∈ o.looksAt ops → k ∈ D.getD i []
  tail : ∀ m o i, nq ≤ m → ops[m]? = some o → i < nq → i ∉ H → reachF md ops i 8 o = true
  hlt : ∀ j ∈ H, j < nq
  chain : ∀ m o i, nq ≤ i → i < m → ops[m]? = some o → reachF md ops i 8 o = true
  bk : ∀ m o, nq ≤ m → ops[m]? = some o → ∀ e ∈ o.after, Region.binds md e = true → e.on < m
  looks : ∀ m o i o' t, nq ≤ m → ops[m]? = some o → i < nq → ops[i]? = some o' → o'.dst = some t → t ∈ o.looksAt ops → reachF md ops i 8 o = true
/-- The last ones: stores, one by one. -/
def lineB (md : Region.Mode) (ops : Array Oper) (nq m : Nat) : Bool := (opAt ops m fun o => (List.range nq).all fun i => reachF md ops i 8 o) && tailB md ops (ops.size - m) m
def TailP (P : Program) (md : Region.Mode) (ops : Array Oper) (nq : Nat) (w0 : World) (Q : Exit → Act → World → Prop) : Nat → List Oper → Act → World → Prop
  | _, [], a, w => Q .normal a w
  | m, o :: os, a, w => (o.dst = none ∧ Region.wanted o (yielded ops a.tmps) = true ∧ ∃ w', (execOp a.eval o).run P w = .ok .skip w' ∧ Bel w0 w' ∧ TailP P md ops nq w0 Q (m + 1) os a w') ∨ (lineB md ops nq m = true ∧ wpList P ops Q (o :: os) a w)
structure InvT (md : Region.Mode) (ops : Array Oper) (nq : Nat) (H : List Nat) (os : List Oper) (vs : Nat → Value) (w0 : World) (a0 : Act) (Q : Exit → Act → World → Prop) (P : Program) (l : List Oper) (listed : Array Bool) (k : Nat) (a : Act) (w : World) : Prop where
  size : listed.size = ops.size
  shut : Shut md ops listed
  bel : Bel w0 w
  main : ∀ j, j < nq → j ∉ H → listed.getD j false = true
  late : ∀ j, nq ≤ j → j < ops.size → (listed.getD j false = true ↔ j < nq + k)
  frame : a = putsM os 0 (fun i => listed.getD i false) vs a0
  tl : TailP P md ops nq w0 Q (nq + k) (l.drop (nq + k)) (putsL os 0 vs a0) w
variable {T : Act → Facts → Prop} {H : List Nat}
theorem hV {ds : List Nat} {D : List (List Nat)} {o : Oper} {os : List Oper} {c : Value} {ss : List Spec} {i : Nat} {a : Act} {F : Facts} (hn : H.contains i = false) (hw : Region.wanted o (yielded ops a.tmps) = true) (h1 : ∀ w, Bel w0 w → Known F ds w → (execOp a.eval o).run P w = .ok (.value c) w)
    (h2 : flowT P ops w0 T H D os ss (i + 1) (a.put o.dst c) F) : flowT P ops w0 T H (ds :: D) (o :: os) (.is c :: ss) i a F := ⟨by rw [hn]; exact fun w hb hk => want hw (gives_val (h1 w hb hk)), h2⟩
theorem hR {ds : List Nat} {D : List (List Nat)} {o : Oper} {os : List Oper} {c : Value} {ss : List Spec} {i : Nat} {a : Act} {F : Facts} (hn : H.contains i = true) (hw : Region.wanted o (yielded ops a.tmps) = true) (h1 : ∀ w', Bel w0 w' → Known F ds w' → ∀ w, Bel w0 w → (execOp a.eval o).run P w = .ok (.value c) w)
    (h2 : flowT P ops w0 T H D os ss (i + 1) (a.put o.dst c) F) : flowT P ops w0 T H (ds :: D) (o :: os) (.is c :: ss) i a F := ⟨by rw [hn]; exact fun w' hb hk w hb' => want hw (h1 w' hb hk w hb'), h2⟩
theorem hC {f : FuncId} {args : Array Value} {ds : List Nat} {D : List (List Nat)} {o : Oper} {os : List Oper} {c : Value} {ss : List Spec} {i : Nat} {a : Act} {F : Facts} (hn : H.contains i = false) (hw : Region.wanted o (yielded ops a.tmps) = true) (h1 : ∀ w, Bel w0 w → Known F ds w → Calls P f args w (Makes w fun v _ => v = c)) (he : ∀ w, (execOp a.eval o).run P w = .ok (.enter f args) w)
    (h2 : flowT P ops w0 T H D os ss (i + 1) (a.put o.dst c) F) : flowT P ops w0 T H (ds :: D) (o :: os) (.is c :: ss) i a F := ⟨by rw [hn]; exact fun w hb hk => want hw (gives_call (he w) (h1 w hb hk)), h2⟩
theorem flowT_has {ds : List Nat} {D : List (List Nat)} {o : Oper} {os : List Oper} {Φ : Value → World → Prop} {ss : List Spec} {i : Nat} {a : Act} {F : Facts} (h1 : ∀ w, Bel w0 w → Known F ds w → if Region.wanted o (yielded ops a.tmps) = true then gives P o a w Φ else Φ undef w)
    (h2 : ∀ v, flowT P ops w0 T H D os ss (i + 1) (a.put o.dst v) ((i, v, Φ) :: F)) : flowT P ops w0 T H (ds :: D) (o :: os) (.has Φ :: ss) i a F := ⟨h1, h2⟩
theorem hH {f : FuncId} {args : Array Value} {ds : List Nat} {D : List (List Nat)} {o : Oper} {os : List Oper} {Φ : Value → World → Prop} {ss : List Spec} {i : Nat} {a : Act} {F : Facts} (hw : Region.wanted o (yielded ops a.tmps) = true) (h1 : ∀ w, Bel w0 w → Known F ds w → Calls P f args w (Makes w Φ)) (he : ∀ w, (execOp a.eval o).run P w = .ok (.enter f args) w)
    (h2 : ∀ v, flowT P ops w0 T H D os ss (i + 1) (a.put o.dst v) ((i, v, Φ) :: F)) : flowT P ops w0 T H (ds :: D) (o :: os) (.has Φ :: ss) i a F := flowT_has (fun w hb hk => want hw (gives_call (he w) (h1 w hb hk))) h2
variable {nq : Nat}
end Go.Proofs.YtafmfnpjhhaikaaGreatDoor
namespace Go.Proofs.YtafmfnpjhhaikaaGreatDoor
open Go.RowKit Go.Shelf
theorem PS.split {k : Nat} {w : World} {c1 c2 c3 c4 c5 c6 : Value} {x y : Rat} (h : PS k w (.agg #[c1, c2, c3, c4, c5, c6]) x y) : RS k w (.agg #[c1, c2, c3]) x ∧ RS k w (.agg #[c4, c5, c6]) y := by
  obtain ⟨s1, u1, d1, s2, u2, d2, h0, h1, h2⟩ := h
  simp only [Value.agg.injEq, Array.mk.injEq, List.cons.injEq, and_true] at h0
  obtain ⟨rfl, rfl, rfl, rfl, rfl, rfl⟩ := h0
  exact ⟨h1, h2⟩
/-- A slice made of points as they came in. -/
def RpSl (l : List Rp) (v : Value) (w : World) : Prop := ∃ G, v = .slice (some ⟨G, 0, none⟩) l.length l.length ∧ ∀ (i : Nat) (x : Rp), l[i]? = some x → ∀ (r : Nat) (u : Value), x.row[r]? = some u → w.cell? ⟨G, i * 6 + r, none⟩ = some u
theorem RpSl.bel {l : List Rp} {v : Value} {w w' : World} (h : RpSl l v w) (hb : Bel w w') : RpSl l v w' := by
  obtain ⟨G, h1, h2⟩ := h
  exact ⟨G, h1, fun i x hx r u hu => hb.cell (h2 i x hx r u hu)⟩
theorem rows_at : ∀ (l : List Rp) (i : Nat) (x : Rp) (r : Nat) (u : Value), l[i]? = some x → x.row[r]? = some u → (l.flatMap Rp.row)[i * 6 + r]? = some u
  | [], _, _, _, _, h, _ => by simp at h
  | y :: l, 0, x, r, u, h, hu => by
    simp only [List.getElem?_cons_zero, Option.some.injEq] at h
    subst h
    rw [List.flatMap_cons, Nat.zero_mul, Nat.zero_add, List.getElem?_append_left (List.getElem?_eq_some_iff.1 hu).1]
    exact hu
  | y :: l, i + 1, x, r, u, h, hu => by
    have hl : y.row.length = 6 := rfl
    rw [List.flatMap_cons, List.getElem?_append_right (by omega), hl, show (i + 1) * 6 + r - 6 = i * 6 + r by omega]
    exact rows_at l i x r u (by simpa using h) hu
theorem au_rof {p : Int} {q : Nat} (hp1 : -9223372036854775808 ≤ p) (hp2 : p < 9223372036854775808) (hq : q < 9223372036854775808) (h0 : q ≠ 0) (w : World) :
    Calls Tryz.prog 45 #[.int .i64 p, .int .i64 (q : Int)] w (Makes w fun v w' => RN 1 w' v (mkRat p q)) := by
  refine (mk_rof hp1 hp2 (by omega) (by omega) (by omega) w).mono fun _ _ h => h.imp fun _ h => ?_
  rw [if_neg (by omega), Int.natAbs_natCast] at h
  exact ⟨h, sz_mk (by unfold B64; omega) (by unfold B64; omega) h0⟩
theorem RpSl.new (l : List Rp) (w : World) : RpSl l (.slice (some ⟨w.heap.size, 0, none⟩) l.length l.length) (w.alloc (.cells (l.flatMap Rp.row).toArray 28)) :=
  ⟨_, rfl, fun i x hx r u hu => by
    rw [heap_cell (heap_alloc_new w _), List.getElem?_toArray]
    exact rows_at l i x r u hx hu⟩
theorem au_fair {l : List Rp} {v : Value} {w : World} {b : Bool} (h : RpSl l v w) (hl : l.length < 1000000) (hf : l.all (Rp.ok 6) = b) : Calls Tryz.prog 12 #[v] w (Makes w fun u _ => u = .bool b) := by
  obtain ⟨G, rfl, hr⟩ := h
  rw [← hf]
  exact fair_any G l.length l w hr (Nat.le_refl _) hl
end Go.Proofs.YtafmfnpjhhaikaaGreatDoor
namespace Go.Proofs.YtafmfnpjhhaikaaGreatDoor
open Go.ChangeShapes Go.WideShapes Go.ChangeAt Go.WideMaps Go.WideElems Go.RowKit Go.Deep
theorem trodAll_below {H : Type} {enc : TypeId × Value → H} {P : Program} (hl : laidOutB P = true) {W W' : World} (hb : Below W.heap.size W W') :
    ∀ (ts : List TypeId) (vs : List Value) (ds : List (DataW H)) (ps : List MemPlace), (∀ t ∈ ts, P.readableRec t = true ∧ t < P.types.size) → DataW.TrodAll enc P W 0 (fun _ => true) true ts vs ds ps → (∀ x ∈ ps, x.block < W.heap.size) →
      DataW.TrodAll enc P W' 0 (fun b => decide (b < W.heap.size)) true ts vs ds ps
  | [], [], [], ps, _, h, _ => h
  | t :: ts, v :: vs, d :: ds, ps, hr, h, hlt => by
    obtain ⟨p, q, h1, h2, rfl⟩ := h
    exact ⟨p, q, Below.trod hl (hr t (by simp)).1 (hr t (by simp)).2 h1 hb (fun x hx => hlt x (List.mem_append.2 (.inl hx))), trodAll_below hl hb ts vs ds q (fun t ht => hr t (by simp [ht])) h2 (fun x hx => hlt x (List.mem_append.2 (.inr hx))), rfl⟩
theorem law_post {H : Type} {enc : TypeId × Value → H} {P : Program} {f : Func} {s : ChangeSpec} {W W' : World} {args : Array Value} {ds : List (DataW H)} {before : List MemPlace} (hl : laidOutB P = true) (hv : s.vars = [])
    (hW : DataW.Whole enc P f.params.toList s.vars false W args.toList ds [] before) (hr : ∀ t ∈ f.params.toList, P.readableRec t = true ∧ t < P.types.size) (hres : f.resultTypes = #[4]) (h4 : P.underlying 4 = some .bool)
    (hs : (s.fn H (ds ++ [])) = { results := [.lit (.bool true)], args := ds }) (hb : Below W.heap.size W W') : s.post enc P f false true false false W args (.bool true) W' := by
  have hW' := hW
  obtain ⟨p, q, hA, hV, rfl, hfz, hnd⟩ := hW'
  rw [hv] at hV
  obtain ⟨_, rfl⟩ := trodVars_none hV
  refine ⟨ds, [], _, [], p, [], hW, ?_, ?_, ?_, hb.frame _, fun h => by cases h⟩
  · rw [hs, hres]
    exact trodAll_mk1 (shut_bool h4 _)
  · rw [hs]
    exact trodAll_below hl hb _ _ _ _ hr hA (fun x hx => by have := hW.lt x (by simpa using hx); exact this)
  · rw [hs, hv]
    rfl
theorem own : ownKnob Tryz.prog.godebug = none := by kernel_rfl
theorem laidOut : laidOutB Tryz.prog = true := by kernel_rfl
def lay : List (String × DataW Unit) := [("unicode/utf8.acceptRanges", Rows.laid_unicode_utf8_acceptRanges), ("unicode/utf8.first", Rows.laid_unicode_utf8_first)]
theorem cellsU64 : Tryz.prog.cellsOf 105 = 1 := by kernel_rfl
theorem cellsBool : Tryz.prog.cellsOf 4 = 1 := by kernel_rfl
theorem cellsLimbs : Tryz.prog.cellsOf 22 = 1 := by kernel_rfl
theorem cellsInt2 : Tryz.prog.cellsOf 24 = 2 := by kernel_rfl
theorem cellsRat : Tryz.prog.cellsOf 26 = 3 := by kernel_rfl
theorem cellsPt : Tryz.prog.cellsOf 28 = 6 := by kernel_rfl
theorem u64_of {H : Type} {enc : TypeId × Value → H} {W : World} {b : Nat} {sp : Nat → Bool} {held : Bool} {n : Nat} {v : Value} {y : DataW H × List MemPlace} (h : DataW.trod enc Tryz.prog W b sp held n 105 [v] = some y) : ∃ x : Nat, v = .int .u64 (x : Int) ∧ x < B64 := by
  obtain ⟨z, hz, _, hw⟩ := DataW.trod_int Tryz.underlying105 h
  have := bounds_u64 hw
  simp only [List.cons.injEq, and_true] at hz
  exact ⟨z.toNat, by rw [hz]; congr 1; omega, by unfold B64; omega⟩
theorem list_any {α : Type} {p : Nat → α → Prop} : ∀ n, (∀ i, i < n → ∃ s, p i s) → ∃ l : List α, l.length = n ∧ ∀ (i : Nat) s, l[i]? = some s → p i s
  | 0, _ => ⟨[], rfl, by simp⟩
  | n + 1, h => by
    obtain ⟨l, hl, hp⟩ := list_any n (fun i hi => h i (by omega))
    obtain ⟨s, hs⟩ := h n (by omega)
    refine ⟨l ++ [s], by simp [hl], fun i t ht => ?_⟩
    by_cases hi : i < n
    · rw [List.getElem?_append_left (by omega)] at ht
      exact hp i t ht
    · have hin : i = n := by
        have := (List.getElem?_eq_some_iff.1 ht).1
        simp at this
        omega
      subst hin
      rw [List.getElem?_append_right (by omega), hl] at ht
      simp at ht
      subst ht
      exact hs
theorem addr_plain {W : World} {a : Addr} {v : Value} (h : W.cell? (a.add 0) = some v) : ∃ b o, a = ⟨b, o, none⟩ := by
  obtain ⟨b, o, sp⟩ := a
  cases sp with
  | none => exact ⟨b, o, rfl⟩
  | some z =>
    exfalso
    unfold World.cell? Addr.add at h
    (repeat' split at h) <;> simp_all
set_option maxRecDepth 100000 in
theorem opened_limbs {H : Type} {enc : TypeId × Value → H} {W : World} {n : Nat} {c : Value} {y : DataW H × List MemPlace} (h : DataW.trod enc Tryz.prog W 0 (fun _ => true) true n 22 [c] = some y) :
    ∃ (p : Option Addr) (k cp : Nat) (l : List Nat), c = .slice p k cp ∧ l.length = k ∧ R64 W (.slice p k cp) l := by
  rcases open_slice Tryz.underlying22 h with ⟨hcs, _⟩ | ⟨a, len, cap, m, k, D, Pl, hcs, _, hl, hm, hmm, _, hall⟩
  · simp only [List.cons.injEq, and_true] at hcs
    subst hcs
    exact ⟨none, 0, 0, [], rfl, rfl, LRow.nil _ _ _⟩
  · simp only [List.cons.injEq, and_true] at hcs
    subst hcs
    simp only [if_true] at hmm
    have hgo : ∀ i, i < len → ∃ x : Nat, W.cell? (a.add i) = some (.int .u64 (x : Int)) ∧ x < B64 := fun i hi => by
      obtain ⟨cs, h1, h2⟩ := hall i (by omega)
      rw [cellsU64, Nat.mul_one] at h1
      obtain ⟨_, hlen, _⟩ := World.cells?_some h1
      match cs, hlen with
      | [v], _ =>
        obtain ⟨x, rfl, hx⟩ := u64_of h2
        exact ⟨x, cell_of_cells?_one h1, hx⟩
    obtain ⟨l, hll, hp⟩ := list_any len hgo
    refine ⟨some a, len, cap, l, rfl, hll, some a, cap, by rw [hll], by omega, fun x hx => ?_, fun hne => ?_⟩
    · obtain ⟨i, hi⟩ := List.getElem?_of_mem hx
      exact (hp i x hi).2
    · have hpos : 0 < l.length := List.length_pos_iff.2 hne
      obtain ⟨b, o, rfl⟩ := addr_plain (hp 0 _ (List.getElem?_eq_getElem hpos)).1
      refine ⟨b, o, rfl, fun j x hj => ?_⟩
      have := (hp j x hj).1
      rwa [Addr.add_lit] at this
set_option maxRecDepth 100000 in
theorem plain_cell {W : World} {r : Reach} {base : Nat} {p : Option Addr} {k c : Nat} (h : Cell.okWide Tryz.prog W r base 22 (.slice p k c)) : PlainP p := by
  cases p with
  | none => exact .inl rfl
  | some a =>
    right
    simp only [Cell.okWide, Tryz.underlying22, Cell.ok, World.has] at h
    obtain ⟨b, o, sp⟩ := a
    obtain ⟨-, -, -, hs, -⟩ := h
    simp only at hs
    exact ⟨b, o, by rw [hs]⟩
/-- A slice of limbs that came in. -/
def Limbs (W : World) (p : Option Addr) (k c : Nat) : Prop := PlainP p ∧ ∃ l : List Nat, l.length = k ∧ R64 W (.slice p k c) l
theorem Limbs.ni {W : World} {p : Option Addr} {k c : Nat} (h : Limbs W p k c) (hk : k < 400000000) : ∃ n, NI W (.slice p k c) n ∧ n < B64 ^ k := by
  obtain ⟨hp, l, rfl, hr⟩ := h
  exact ⟨valB B64 l, ⟨p, c, l, rfl, hr, hp, rfl, hk⟩, val_lt hr.all⟩
/-- The slices of a point. -/
def PtIn (W : World) (x : Rp) : Prop := (Limbs W x.p1 x.k1 x.c1 ∧ Limbs W x.q1 x.j1 x.d1) ∧ Limbs W x.p2 x.k2 x.c2 ∧ Limbs W x.q2 x.j2 x.d2
theorem rs_of {W : World} {s : Bool} {p q : Option Addr} {k c j d m : Nat} (h1 : Limbs W p k c) (h2 : Limbs W q j d) (hk : k ≤ m) (hj : j ≤ m) (hm : m ≤ LimK) (h0 : 0 < m) : ∃ x, RS m W (.agg #[.bool s, .slice p k c, .slice q j d]) x := by
  unfold LimK at hm
  obtain ⟨a, ha, hal⟩ := h1.ni (by omega)
  obtain ⟨b, hb, hbl⟩ := h2.ni (by omega)
  exact ⟨ratOf s a b, ⟨s, _, _, a, b, rfl, ha, hb, rfl⟩, sz_of (Nat.lt_of_lt_of_le hal (Nat.pow_le_pow_right b64_pos hk)) (Nat.lt_of_lt_of_le hbl (Nat.pow_le_pow_right b64_pos hj)) h0⟩
theorem PtIn.ps {W : World} {x : Rp} (h : PtIn W x) (hk : x.ok 6 = true) : ∃ X Y, PS 6 W (.agg x.row.toArray) X Y := by
  unfold Rp.ok at hk
  have hk := of_decide_eq_true hk
  obtain ⟨X, hX⟩ := rs_of (s := x.s1) h.1.1 h.1.2 hk.1.1 hk.1.2 (by decide) (by decide)
  obtain ⟨Y, hY⟩ := rs_of (s := x.s2) h.2.1 h.2.2 hk.2.1 hk.2.2 (by decide) (by decide)
  exact ⟨X, Y, _, _, _, _, _, _, rfl, hX, hY⟩
set_option maxRecDepth 100000 in
theorem int_open {H : Type} {enc : TypeId × Value → H} {W : World} {n : Nat} {cs : List Value} {x : DataW H × List MemPlace} (h : DataW.trod enc Tryz.prog W 0 (fun _ => true) true n 24 cs = some x) :
    ∃ (s : Bool) (p : Option Addr) (k c : Nat) (l : List Nat), cs = [.bool s, .slice p k c] ∧ l.length = k ∧ R64 W (.slice p k c) l := by
  obtain ⟨y0, y1, m, _, hl, h0, h1⟩ := trod_struct2 Tryz.underlying24 h
  rw [cellsInt2] at hl
  match cs, hl with
  | [c0, c1], _ =>
    dsimp only at h0 h1
    rw [cellsBool] at h0
    rw [cellsLimbs] at h1
    simp only [List.drop_zero, List.drop_succ_cons, List.take_succ_cons, List.take_zero] at h0 h1
    obtain ⟨s, hs, _⟩ := DataW.trod_bool Tryz.underlying4 h0
    simp only [List.cons.injEq, and_true] at hs
    subst hs
    obtain ⟨p, k, c, l, rfl, h2, h3⟩ := opened_limbs h1
    exact ⟨s, p, k, c, l, rfl, h2, h3⟩
set_option maxRecDepth 100000 in
theorem rat_open {H : Type} {enc : TypeId × Value → H} {W : World} {n : Nat} {cs : List Value} {x : DataW H × List MemPlace} (h : DataW.trod enc Tryz.prog W 0 (fun _ => true) true n 26 cs = some x) :
    ∃ (s : Bool) (p : Option Addr) (k c : Nat) (q : Option Addr) (j d : Nat), cs = [.bool s, .slice p k c, .slice q j d] ∧ (∃ l : List Nat, l.length = k ∧ R64 W (.slice p k c) l) ∧ ∃ l : List Nat, l.length = j ∧ R64 W (.slice q j d) l := by
  obtain ⟨y0, y1, m, _, hl, h0, h1⟩ := trod_struct2 Tryz.underlying26 h
  rw [cellsRat] at hl
  match cs, hl with
  | [c0, c1, c2], _ =>
    dsimp only at h0 h1
    rw [cellsInt2] at h0
    rw [cellsLimbs] at h1
    simp only [List.drop_zero, List.drop_succ_cons, List.take_succ_cons, List.take_zero] at h0 h1
    obtain ⟨s, p, k, c, l, hs, h2, h3⟩ := int_open h0
    simp only [List.cons.injEq, and_true] at hs
    obtain ⟨rfl, rfl⟩ := hs
    obtain ⟨q, j, d, l', rfl, h4, h5⟩ := opened_limbs h1
    exact ⟨s, p, k, c, q, j, d, rfl, ⟨l, h2, h3⟩, l', h4, h5⟩
set_option maxRecDepth 100000 in
theorem pt_open {H : Type} {enc : TypeId × Value → H} {W : World} {n : Nat} {cs : List Value} {x : DataW H × List MemPlace} (h : DataW.trod enc Tryz.prog W 0 (fun _ => true) true n 28 cs = some x) :
    ∃ x : Rp, cs = x.row ∧ ((∃ l : List Nat, l.length = x.k1 ∧ R64 W (.slice x.p1 x.k1 x.c1) l) ∧ ∃ l : List Nat, l.length = x.j1 ∧ R64 W (.slice x.q1 x.j1 x.d1) l) ∧ (∃ l : List Nat, l.length = x.k2 ∧ R64 W (.slice x.p2 x.k2 x.c2) l) ∧ ∃ l : List Nat, l.length = x.j2 ∧ R64 W (.slice x.q2 x.j2 x.d2) l := by
  obtain ⟨y0, y1, m, _, hl, h0, h1⟩ := trod_struct2 Tryz.underlying28 h
  rw [cellsPt] at hl
  match cs, hl with
  | [c0, c1, c2, c3, c4, c5], _ =>
    dsimp only at h0 h1
    rw [cellsRat] at h0 h1
    simp only [List.drop_zero, List.drop_succ_cons, List.take_succ_cons, List.take_zero] at h0 h1
    obtain ⟨s1, p1, k1, e1, q1, j1, d1, hs, h2, h3⟩ := rat_open h0
    obtain ⟨s2, p2, k2, e2, q2, j2, d2, ht, h4, h5⟩ := rat_open h1
    simp only [List.cons.injEq, and_true] at hs ht
    obtain ⟨rfl, rfl, rfl⟩ := hs
    obtain ⟨rfl, rfl, rfl⟩ := ht
    exact ⟨⟨s1, p1, k1, e1, q1, j1, d1, s2, p2, k2, e2, q2, j2, d2⟩, rfl, ⟨h2, h3⟩, h4, h5⟩
theorem ptTypes : Tryz.prog.cellTypes Tryz.prog.depth 28 = some [4, 22, 22, 4, 22, 22] := by kernel_rfl
set_option maxRecDepth 100000 in
theorem opened_pt {H : Type} {enc : TypeId × Value → H} {W : World} {r : Reach} {base : Nat} {v : Value} {d : DataW H} {p : List MemPlace} (h : DataW.Trod enc Tryz.prog W 0 (fun _ => true) true 28 v d p) (hv : Value.okWide Tryz.prog W r base 28 v) :
    ∃ x : Rp, v = .agg x.row.toArray ∧ PtIn W x := by
  simp only [Value.okWide, Tryz.underlying28] at hv
  obtain ⟨cs, rfl, -, ts, hts, -, hall⟩ := hv
  rw [ptTypes] at hts
  simp only [Option.some.injEq] at hts
  subst hts
  obtain ⟨n, hn⟩ := h
  obtain ⟨x, hx, ⟨h1, h2⟩, h3, h4⟩ := pt_open hn
  have hx' : cs = x.row.toArray := by
    have : cs.toList = x.row := hx
    rw [← this]
  subst hx'
  have hc : ∀ (i : Nat) (p : Option Addr) (k c : Nat) (u : TypeId), x.row[i]? = some (.slice p k c) → ([4, 22, 22, 4, 22, 22] : List TypeId)[i % 6]? = some 22 → PlainP p := fun i p k c u hi ht => by
    obtain ⟨u', hu, hok⟩ := hall i _ (by rw [List.getElem?_toArray]; exact hi)
    simp only [List.length_cons, List.length_nil, Nat.zero_add, Nat.reduceAdd] at hu
    rw [ht] at hu
    cases hu
    exact plain_cell hok
  exact ⟨x, rfl, ⟨⟨hc 1 _ _ _ 0 rfl rfl, h1⟩, hc 2 _ _ _ 0 rfl rfl, h2⟩, ⟨hc 4 _ _ _ 0 rfl rfl, h3⟩, hc 5 _ _ _ 0 rfl rfl, h4⟩
end Go.Proofs.YtafmfnpjhhaikaaGreatDoor
