/-
  The evaluator's regions that draw their order.
-/
import Derived.Test.YtafmfnpjhhaikaaGreatDoorZav
import Derived.Scope
import Derived.LoopN
namespace Go.Proofs.YtafmfnpjhhaikaaGreatDoor
open Go.RowKit Go.Shelf
section
variable {E : Env} {S0 : Nat → Prop} {C : Ctx} {w wf : World} {st st' : St} {a : Act} {ops : Array Oper} {Q : Exit → Act → World → Prop} {us : List Upd}
theorem InvE.congr (h : InvE S0 wf C st a w) (hl : st.slots.length = st'.slots.length) (hs : ∀ t, nth st.slots t = nth st'.slots t) (hb : ∀ b, look st.boxes b = look st'.boxes b) : InvE S0 wf C st' a w where
  bel := h.bel
  defers := h.defers
  size := by rw [← hl]; exact h.size
  sees := ⟨fun t x hx => h.sees.slot t x (by rw [hs]; exact hx), fun b B hB => h.sees.box b B (by rw [hb]; exact hB)⟩
  inj := h.inj
  dom := fun b hB => h.dom b (by rw [hb]; exact hB)
  own := h.own
  lt := h.lt
  base := h.base
  sup := h.sup
theorem opd_congr {o : Oper} (h : ∀ t ∈ o.looksAt ops, nth st.slots t = nth st'.slots t) : ∀ x ∈ o.op.operands.toList, st.opd x = st'.opd x := by
  intro x hx
  cases x with
  | tmp t =>
    have := h t (List.mem_append_left _ (List.mem_filterMap.2 ⟨.tmp t, hx, rfl⟩))
    simp only [St.opd, this]
  | _ => rfl
theorem eval_congrE {op : Op} (h : ∀ x ∈ op.operands.toList, st.opd x = st'.opd x) (hb : ∀ b, boxesOf st op = some b → look st.boxes b = look st'.boxes b) : opEval E st op = opEval E st' op := by
  cases op with
  | move x => simp only [opEval, h x (by simp [Op.operands])]
  | assign x => simp only [opEval, h x (by simp [Op.operands])]
  | pick c x y => simp only [opEval, h c (by simp [Op.operands]), h x (by simp [Op.operands]), h y (by simp [Op.operands])]
  | alloc t => rfl
  | box t x => simp only [opEval, h x (by simp [Op.operands])]
  | build t parts =>
    have e : parts.toList.map (fun p => (p.1, st.opd p.2)) = parts.toList.map (fun p => (p.1, st'.opd p.2)) := List.map_congr_left fun p hp => by
      rw [h p.2 (by simp only [Op.operands]; exact List.mem_map.2 ⟨p, hp, rfl⟩)]
    simp only [opEval, e]
  | buildSlice t n parts =>
    have e : parts.toList.map (fun p => (p.1, st.opd p.2)) = parts.toList.map (fun p => (p.1, st'.opd p.2)) := List.map_congr_left fun p hp => by
      rw [h p.2 (by simp only [Op.operands]; exact List.mem_map.2 ⟨p, hp, rfl⟩)]
    simp only [opEval, e]
  | load t x =>
    have e := h x (by simp [Op.operands])
    simp only [opEval, e]
    split
    · rename_i b o y hx hy
      rw [hb b (by simp only [boxesOf, e, hx])]
    · rfl
  | store t x y =>
    have e := h x (by simp [Op.operands])
    have e2 := h y (by simp [Op.operands])
    simp only [opEval, e, e2]
    split
    · rename_i b o v z hx hv hz
      rw [hb b (by simp only [boxesOf, e, hx])]
    · rfl
  | binOp op t x y yt => simp only [opEval, h x (by simp [Op.operands]), h y (by simp [Op.operands])]
  | unOp op t x => simp only [opEval, h x (by simp [Op.operands])]
  | convert s d x => simp only [opEval, h x (by simp [Op.operands])]
  | fieldAddr t x f => simp only [opEval, h x (by simp [Op.operands])]
  | field t x f => simp only [opEval, h x (by simp [Op.operands])]
  | indexAddr t x i => simp only [opEval, h x (by simp [Op.operands]), h i (by simp [Op.operands])]
  | index t x i => simp only [opEval, h x (by simp [Op.operands]), h i (by simp [Op.operands])]
  | extract x i => simp only [opEval, h x (by simp [Op.operands])]
  | call c =>
    have e : c.args.toList.map st.opd = c.args.toList.map st'.opd := List.map_congr_left fun x hx => h x (by simp only [Op.operands, Call.operands, Array.toList_append]; exact List.mem_append_right _ hx)
    simp only [opEval, e]
    split
    · rename_i f hc
      rw [h f (by simp [Op.operands, Call.operands, hc])]
    · rfl
    · rfl
  | _ => rfl
theorem boxes_congr {op : Op} (h : ∀ x ∈ op.operands.toList, st.opd x = st'.opd x) : boxesOf st op = boxesOf st' op := by
  cases op <;> first | rfl | skip
  · rename_i t x; simp only [boxesOf, h x (by simp [Op.operands])]
  · rename_i t x y; simp only [boxesOf, h x (by simp [Op.operands])]
theorem Ev.congr {o : Oper} {u : Upd} (h : Ev E ops o st u) (hs : ∀ t ∈ o.looksAt ops, nth st.slots t = nth st'.slots t) (hr : ∀ b, u.rb = some b → look st.boxes b = look st'.boxes b) (hb : ∀ b, u.at b → look st.boxes b = look st'.boxes b) : Ev E ops o st' u := by
  have hg : ∀ b, guardIs ops st o b → guardIs ops st' o b := fun b hg => by
    unfold guardIs at hg ⊢
    cases hgd : o.guard with
    | none => rw [hgd] at hg; exact hg
    | some g =>
      obtain ⟨g, want⟩ := g
      rw [hgd] at hg
      obtain ⟨d, c, h1, h2, h3⟩ := hg
      exact ⟨d, c, h1, by rw [← hs d (by simp [Oper.looksAt, hgd, h1])]; exact h2, h3⟩
  have ho := opd_congr hs
  obtain ⟨hd, ⟨h1, h2, e, h3, hu⟩ | ⟨h1, h2, h3, h4⟩⟩ := h
  · refine ⟨hd, .inl ⟨hg _ h1, by rw [h2, boxes_congr ho], e, ?_, ?_⟩⟩
    · rw [← eval_congrE ho (fun b hb' => hr b (by rw [h2]; exact hb'))]
      exact h3
    · cases e with
      | val t => exact hu
      | new B =>
        obtain ⟨id, h4, h5, h6, h7⟩ := hu
        exact ⟨id, h4, h5, by rw [← hb id ⟨B, h5⟩]; exact h6, h7⟩
      | put b off n x c =>
        obtain ⟨h4, B, h5, h6⟩ := hu
        exact ⟨h4, B, by rw [← hb b ⟨_, h6⟩]; exact h5, h6⟩
      | call f args => exact hu
  · exact ⟨hd, .inr ⟨hg _ h1, h2, h3, h4⟩⟩
def updAt (us : List Upd) (i : Nat) (p : Upd → Bool) : Bool := match nth us i with | some u => p u | none => false
def hits (ops : Array Oper) (ui uj : Upd) (oj : Oper) : Bool :=
  (match ui.dst with | some d => (oj.looksAt ops).contains d || uj.dst == some d | none => false) ||
  (match ui.box with | some (b, _) => uj.rb == some b || (match uj.box with | some (b', _) => b' == b | none => false) | none => false)
/-- Operations that touch the same wait for each other. -/
def confB (ops : Array Oper) (us : List Upd) : Bool :=
  (List.range ops.size).all fun j => opAt ops j fun oj => (oj.after.all fun e => !Region.binds .any e || e.on.blt j) && updAt us j fun uj => (match uj.dst with | some d => !(oj.looksAt ops).contains d | none => true) &&
    (List.range ops.size).all fun i => i == j || updAt us i fun ui => opAt ops i fun oi => !hits ops ui uj oj || (bif i.blt j then reachF .any ops i 8 oj else reachF .any ops j 8 oi)
structure Conf (ops : Array Oper) (us : List Upd) : Prop where
  back : ∀ (j : Nat) (o : Oper), ops[j]? = some o → ∀ e ∈ o.after, Region.binds .any e = true → e.on < j
  self : ∀ (j : Nat) (o : Oper) (u : Upd) (d : Tmp), ops[j]? = some o → us[j]? = some u → u.dst = some d → d ∉ o.looksAt ops
  apart : ∀ (i j : Nat) (oi oj : Oper) (ui uj : Upd), ops[i]? = some oi → ops[j]? = some oj → us[i]? = some ui → us[j]? = some uj → i ≠ j → hits ops ui uj oj = true → (i < j → reachF .any ops i 8 oj = true) ∧ (j < i → reachF .any ops j 8 oi = true)
theorem updAt_of {i : Nat} {p : Upd → Bool} (h : updAt us i p = true) : ∃ u, us[i]? = some u ∧ p u = true := by
  unfold updAt at h
  rw [nth_eq] at h
  cases ho : us[i]? with
  | none => rw [ho] at h; cases h
  | some o => rw [ho] at h; exact ⟨o, rfl, h⟩
theorem conf_of (h : confB ops us = true) (hn : us.length = ops.size) : Conf ops us := by
  have hall : ∀ (j : Nat) (o : Oper), ops[j]? = some o → j < ops.size := fun j o ho => (Array.getElem?_eq_some_iff.1 ho).1
  have g : ∀ (j : Nat) (o : Oper) (u : Upd), ops[j]? = some o → us[j]? = some u → (o.after.all fun e => !Region.binds .any e || e.on.blt j) = true ∧ (match u.dst with | some d => !(o.looksAt ops).contains d | none => true) = true ∧
      (List.range ops.size).all (fun i => i == j || updAt us i fun ui => opAt ops i fun oi => !hits ops ui u o || (bif i.blt j then reachF .any ops i 8 o else reachF .any ops j 8 oi)) = true := fun j o u ho hu => by
    have h1 := List.all_eq_true.1 h j (List.mem_range.2 (hall j o ho))
    obtain ⟨o', ho', hp⟩ := opAt_of h1
    rw [ho] at ho'
    cases ho'
    simp only [Bool.and_eq_true] at hp
    obtain ⟨u', hu', hq⟩ := updAt_of hp.2
    rw [hu] at hu'
    cases hu'
    simp only [Bool.and_eq_true] at hq
    exact ⟨hp.1, hq.1, hq.2⟩
  have hu : ∀ (j : Nat) (o : Oper), ops[j]? = some o → ∃ u, us[j]? = some u := fun j o ho => ⟨_, List.getElem?_eq_getElem (by rw [hn]; exact hall j o ho)⟩
  refine ⟨fun j o ho e he hb => ?_, fun j o u d ho hu' hd hc => ?_, fun i j oi oj ui uj hi hj hui huj hne hh => ?_⟩
  · obtain ⟨u, hu'⟩ := hu j o ho
    have := Array.all_eq_true_iff_forall_mem.1 (g j o u ho hu').1 e he
    simp only [Bool.or_eq_true, Bool.not_eq_true'] at this
    rcases this with this | this
    · rw [hb] at this; cases this
    · exact Nat.ble_eq.mp this
  · have := (g j o u ho hu').2.1
    rw [hd] at this
    simp only [Bool.not_eq_true', List.contains_eq_mem, decide_eq_false_iff_not] at this
    exact this hc
  · have := List.all_eq_true.1 (g j oj uj hj huj).2.2 i (List.mem_range.2 (hall i oi hi))
    simp only [Bool.or_eq_true, beq_iff_eq, updAt, nth_eq, hui, opAt, hi, hh, Bool.not_true, Bool.false_eq_true, false_or] at this
    have h2 := this.resolve_left hne
    constructor
    · intro hlt
      have : i.blt j = true := Nat.ble_eq.mpr hlt
      rw [this] at h2
      exact h2
    · intro hlt
      have : i.blt j = false := by
        cases hb : i.blt j
        · rfl
        · have := Nat.ble_eq.mp hb; omega
      rw [this] at h2
      exact h2
theorem path_any (hE : E.Ok) (hp : Path E ops ops.toList st us) (hc : confB ops us = true) (hQ : ∀ C a w, InvE S0 wf C (us.foldl St.app st) a w → Q .normal a w) :
    ∀ (c : Nat) (listed : Array Bool) (a : Act) (w : World) (C : Ctx), cnt (fun i => listed.getD i false) ops.size = c → listed.size = ops.size → Shut .any ops listed → InvE S0 wf C (mfold st us (fun i => listed.getD i false) 0) a w → wpAny E.P .any ops Q c listed a w := by
  obtain ⟨hn, hev⟩ := path_at _ _ _ hp
  have hn' : us.length = ops.size := by rw [hn]; simp
  have hF := conf_of hc hn'
  intro c
  induction c with
  | zero =>
    intro listed a w C hcz hsz hsh hi
    have hall := cnt_zero hcz
    refine ⟨?_, ?_⟩
    · rw [List.eq_nil_iff_forall_not_mem]
      intro j hj
      obtain ⟨hjun, o, ho, -⟩ := mem_ready.1 hj
      have hlt := (Array.getElem?_eq_some_iff.1 ho).1
      have h1 := hall j hlt
      have : j < listed.size := by omega
      simp [this] at hjun h1
      rw [h1] at hjun
      cases hjun
    · refine hQ C a w ?_
      have e : us.foldl St.app st = mfold st us (fun i => listed.getD i false) 0 := by
        have := mfold_take us st us.length 0
        rw [List.take_length] at this
        rw [this]
        exact mfold_congr us st _ _ 0 (fun k hk => by simp only [Nat.zero_add]; rw [hall k (by omega)]; simpa using hk)
      rw [e]
      exact hi
  | succ c ih =>
    intro listed a w C hcz hsz hsh hi
    obtain ⟨i0, hi0, hun, hlow⟩ := cnt_pos (f := fun i => listed.getD i false) (n := ops.size) (by omega)
    have untrue : ∀ {i : Nat}, i < ops.size → listed.getD i false = false → listed.getD i true = false := fun {i} hi h => by
      have : i < listed.size := by omega
      simp [this] at h ⊢
      exact h
    have hready : i0 ∈ Region.ready .any ops listed := by
      obtain ⟨o, ho⟩ : ∃ o, ops[i0]? = some o := ⟨_, Array.getElem?_eq_getElem hi0⟩
      exact mem_ready.2 ⟨untrue hi0 hun, o, ho, fun e he hb => hlow e.on (hF.back i0 o ho e he hb)⟩
    refine ⟨fun h => (by rw [h] at hready; cases hready), fun j hj => ?_⟩
    obtain ⟨hjun, oj, hoj, hall⟩ := mem_ready.1 hj
    have hjn : j < ops.size := (Array.getElem?_eq_some_iff.1 hoj).1
    have hjun' : listed.getD j false = false := by
      have : j < listed.size := by omega
      simp [this] at hjun ⊢
      exact hjun
    obtain ⟨uj, huj⟩ : ∃ u, us[j]? = some u := ⟨_, List.getElem?_eq_getElem (by omega)⟩
    have hop : ∀ k u, us[k]? = some u → ∃ o, ops[k]? = some o := fun k u hu => ⟨_, Array.getElem?_eq_getElem (by have := (List.getElem?_eq_some_iff.1 hu).1; omega)⟩
    -- what touches the same as j has been listed just if it stands ahead
    have hset : ∀ k u, us[k]? = some u → k ≠ j → hits ops u uj oj = true → listed.getD k false = decide (k < j) := fun k u hu hne hh => by
      obtain ⟨o, ho⟩ := hop k u hu
      obtain ⟨h1, h2⟩ := hF.apart k j o oj u uj ho hoj hu huj hne hh
      by_cases hlt : k < j
      · rw [decide_eq_true hlt]
        exact reachF_listed hsh 8 oj hall (h1 hlt)
      · rw [decide_eq_false hlt]
        cases hk : listed.getD k false
        · rfl
        · have h3 := reachF_listed hsh 8 o (hsh k o ho hk) (h2 (by omega))
          rw [hjun'] at h3
          cases h3
    have hat : ∀ (u : Upd) b, u.at b → (uj.rb = some b ∨ uj.at b) → hits ops u uj oj = true := fun u b hu hr => by
      obtain ⟨B, hB⟩ := hu
      unfold hits
      simp only [hB, Bool.or_eq_true, beq_iff_eq]
      refine .inr ?_
      rcases hr with hr | ⟨B', hB'⟩
      · exact .inl hr
      · rw [hB']; exact .inr (by simp)
    have hdst : ∀ (u : Upd) t, u.dst = some t → (t ∈ oj.looksAt ops ∨ uj.dst = some t) → hits ops u uj oj = true := fun u t hu hr => by
      unfold hits
      simp only [hu, Bool.or_eq_true, beq_iff_eq, List.contains_eq_mem, decide_eq_true_eq]
      exact .inl hr
    have hstj : (us.take j).foldl St.app st = mfold st us (fun k => decide (k < j)) 0 := by rw [mfold_take us st j 0]; simp only [Nat.zero_add]
    have hevj := hev j oj uj (by simpa using hoj) huj
    rw [hstj] at hevj
    have hevm : Ev E ops oj (mfold st us (fun i => listed.getD i false) 0) uj := by
      refine hevj.congr (fun t ht => ?_) (fun b hb => ?_) (fun b hb => ?_)
      · refine mfold_slot us st st _ _ 0 t rfl rfl (fun k u hu hd => ?_)
        rw [Nat.zero_add]
        have hne : k ≠ j := fun e => by
          subst e
          rw [huj] at hu
          cases hu
          exact hF.self k oj uj t hoj huj hd ht
        exact (hset k u hu hne (hdst u t hd (.inl ht))).symm
      · refine mfold_box us st st _ _ 0 b rfl (fun k u hu hd => ?_)
        rw [Nat.zero_add]
        by_cases hne : k = j
        · subst hne; simp only [Nat.lt_irrefl, decide_false]; exact hjun'.symm
        · exact (hset k u hu hne (hat u b hd (.inl hb))).symm
      · refine mfold_box us st st _ _ 0 b rfl (fun k u hu hd => ?_)
        rw [Nat.zero_add]
        by_cases hne : k = j
        · subst hne; simp only [Nat.lt_irrefl, decide_false]; exact hjun'.symm
        · exact (hset k u hu hne (hat u b hd (.inr hb))).symm
    have hnew : ∀ k, (listed.setIfInBounds j true).getD k false = if k = j then true else listed.getD k false := fun k => by
      by_cases hk : k = j
      · subst hk
        have : k < listed.size := by omega
        simp [this]
      · rw [if_neg hk, getD_set_ne false (Ne.symm hk)]
    have hcn : cnt (fun i => (listed.setIfInBounds j true).getD i false) ops.size = c := by
      have := (cnt_set (f := fun i => listed.getD i false) (g := fun i => (listed.setIfInBounds j true).getD i false) (j := j) hjun' (by simp [hnew]) (fun k hk => by simp [hnew, hk]) (n := ops.size)).2 hjn
      omega
    have hstep := ev_step (Q := Q) hE hi hevm (K := wpAny E.P .any ops Q c (listed.setIfInBounds j true)) (fun C' a' w' hi' => by
      refine ih _ a' w' C' hcn (by rw [Array.size_setIfInBounds]; exact hsz) (hsh.add hj) ?_
      refine hi'.congr (by rw [app_len, mfold_len, mfold_len]) (fun t => ?_) (fun b => ?_)
      · rw [nth_app]
        by_cases hd : uj.dst = some t
        · rw [if_pos hd, mfold_len]
          refine (mfold_slot_last us st _ 0 j t uj huj hd (by rw [Nat.zero_add, hnew, if_pos rfl]) (fun k u hk hu hd' => ?_)).symm
          rw [Nat.zero_add, hnew, if_neg (by omega), hset k u hu (by omega) (hdst u t hd' (.inr hd))]
          exact decide_eq_false (by omega)
        · rw [if_neg hd]
          refine mfold_slot us st st _ _ 0 t rfl rfl (fun k u hu hd' => ?_)
          rw [Nat.zero_add, hnew, if_neg (fun e => by subst e; rw [huj] at hu; cases hu; exact hd hd')]
      · by_cases hd : uj.at b
        · obtain ⟨B, hB⟩ := hd
          rw [look_app, hB]
          simp only [if_true]
          refine (mfold_box_last us st _ 0 j b uj B huj hB (by rw [Nat.zero_add, hnew, if_pos rfl]) (fun k u hk hu hd' => ?_)).symm
          rw [Nat.zero_add, hnew, if_neg (by omega), hset k u hu (by omega) (hat u b hd' (.inr ⟨B, hB⟩))]
          exact decide_eq_false (by omega)
        · have e : look ((mfold st us (fun i => listed.getD i false) 0).app uj).boxes b = look (mfold st us (fun i => listed.getD i false) 0).boxes b := by
            rw [look_app]
            cases hb : uj.box with
            | none => rfl
            | some p =>
              obtain ⟨b', B⟩ := p
              dsimp only
              rw [if_neg (fun e => hd ⟨B, by rw [hb, e]⟩)]
          rw [e]
          refine mfold_box us st st _ _ 0 b rfl (fun k u hu hd' => ?_)
          rw [Nat.zero_add, hnew, if_neg (fun e => by subst e; rw [huj] at hu; cases hu; exact hd hd')])
    unfold wpOp
    rw [hoj]
    dsimp only
    split
    · rename_i hw; rw [if_pos hw] at hstep; exact .inl hstep
    · rename_i hw; rw [if_neg hw] at hstep; exact hstep
end
def Out.bind {α β : Type} : Out α → (α → Out β) → Out β
  | .fail, _ => .fail
  | .leaf x, f => f x
  | .need p k, f => .need p (k.bind f)
  | .chk b k, f => .chk b (k.bind f)
  | .br b x y, f => .br b (x.bind f) (y.bind f)
def Out.holds {α : Type} (Q : α → Prop) : Out α → Prop
  | .fail => False
  | .leaf x => Q x
  | .need p k => p ∧ k.holds Q
  | .chk b k => b = true ∧ k.holds Q
  | .br b x y => (b = true → x.holds Q) ∧ (b = false → y.holds Q)
theorem holds_gets {α : Type} {Q : α → Prop} : ∀ {o : Out α}, o.holds Q → ∃ x, o.gets x ∧ Q x
  | .fail, h => h.elim
  | .leaf x, h => ⟨x, rfl, h⟩
  | .need p k, h => by obtain ⟨x, h1, h2⟩ := holds_gets h.2; exact ⟨x, ⟨h.1, h1⟩, h2⟩
  | .chk b k, h => by obtain ⟨x, h1, h2⟩ := holds_gets h.2; exact ⟨x, ⟨h.1, h1⟩, h2⟩
  | .br true k l, h => by obtain ⟨x, h1, h2⟩ := holds_gets (h.1 rfl); exact ⟨x, .inl ⟨rfl, h1⟩, h2⟩
  | .br false k l, h => by obtain ⟨x, h1, h2⟩ := holds_gets (h.2 rfl); exact ⟨x, .inr ⟨rfl, h1⟩, h2⟩
theorem gets_bind {α β : Type} {f : α → Out β} {y : β} : ∀ {o : Out α}, (o.bind f).gets y → ∃ x, o.gets x ∧ (f x).gets y
  | .fail, h => h.elim
  | .leaf x, h => ⟨x, rfl, h⟩
  | .need p k, h => by obtain ⟨x, h1, h2⟩ := gets_bind h.2; exact ⟨x, ⟨h.1, h1⟩, h2⟩
  | .chk b k, h => by obtain ⟨x, h1, h2⟩ := gets_bind h.2; exact ⟨x, ⟨h.1, h1⟩, h2⟩
  | .br b k l, h => by
    rcases h with ⟨hb, h⟩ | ⟨hb, h⟩
    · obtain ⟨x, h1, h2⟩ := gets_bind h; exact ⟨x, .inl ⟨hb, h1⟩, h2⟩
    · obtain ⟨x, h1, h2⟩ := gets_bind h; exact ⟨x, .inr ⟨hb, h1⟩, h2⟩
/-- Bounds that are numerals are looked at, and gone. -/
def Out.clean {α : Type} : Out α → Out α
  | .chk true k => k.clean
  | .chk false _ => .fail
  | .need p k => .need p k.clean
  | .br b x y => .br b x.clean y.clean
  | .leaf x => .leaf x
  | .fail => .fail
theorem clean_gets {α : Type} {x : α} : ∀ {o : Out α}, o.clean.gets x → o.gets x
  | .chk true k, h => ⟨rfl, clean_gets (o := k) h⟩
  | .chk false _, h => h.elim
  | .need _ _, h => ⟨h.1, clean_gets h.2⟩
  | .br _ _ _, h => h.imp (fun h => ⟨h.1, clean_gets h.2⟩) (fun h => ⟨h.1, clean_gets h.2⟩)
  | .leaf _, h => h
  | .fail, h => h
/-- Where nothing is open: all tests are made. -/
def Out.run {α : Type} : Out α → Option α
  | .chk true k => k.run
  | .br true x _ => x.run
  | .br false _ y => y.run
  | .leaf x => some x
  | _ => none
theorem run_gets {α : Type} {x : α} : ∀ {o : Out α}, o.run = some x → o.gets x
  | .chk true k, h => ⟨rfl, run_gets (o := k) h⟩
  | .br true k _, h => .inl ⟨rfl, run_gets (o := k) h⟩
  | .br false _ l, h => .inr ⟨rfl, run_gets (o := l) h⟩
  | .leaf _, h => Option.some.inj h
  | .chk false _, h => by simp [Out.run] at h
  | .need _ _, h => by simp [Out.run] at h
  | .fail, h => by simp [Out.run] at h
def memN : List Nat → Nat → Bool
  | [], _ => false
  | x :: l, n => x == n || memN l n
def keysOf (ops : Array Oper) : List Nat := ops.toList.flatMap fun o => (match o.guard with | some (g, _) => ((ops[g]?).bind (·.dst)).toList | none => []) ++ (match o.op with | .pick (.tmp t) _ _ => [t] | _ => [])
def guardV (all : Array Oper) (st : St) (o : Oper) : Option Bool := match o.guard with
  | none => some true
  | some (g, want) => match (all[g]?).bind (·.dst) with
    | some d => match nth st.slots d with
      | some (some (.one [.lit (.bool c)])) => some (c == want)
      | _ => none
    | none => none
def mkUpd (E : Env) (st : St) (o : Oper) : Eff → Out Upd
  | .val t => .leaf ⟨o.dst, some t, boxesOf st o.op, none⟩
  | .new B => match look st.boxes st.next, boxesOf st o.op with
    | none, none => .leaf ⟨o.dst, some (.one [.ptr st.next 0]), none, some (st.next, B)⟩
    | _, _ => .fail
  | .put b _ _ _ c => match look st.boxes b with
    | some B => .leaf ⟨o.dst, none, boxesOf st o.op, some (b, ⟨B.ty, c⟩)⟩
    | none => .fail
  | .call f args => match look E.con f with
    | some con => (con args).bind fun t => .leaf ⟨o.dst, some t, boxesOf st o.op, none⟩
    | none => .fail
def Upd.key (keys : List Nat) (u : Upd) : Out Upd := match u.dst, u.t with
  | some d, some (.one [.sym (.bool b)]) => bif memN keys d then .br b (.leaf { u with t := some (.one [.lit (.bool true)]) }) (.leaf { u with t := some (.one [.lit (.bool false)]) }) else .leaf u
  | _, _ => .leaf u
def evOp (E : Env) (keys : List Nat) (all : Array Oper) (st : St) (o : Oper) : Out Upd := match guardV all st o with
  | some true => match opEval E st o.op with
    | some e => (mkUpd E st o e).bind (Upd.key keys)
    | none => .fail
  | some false => .leaf ⟨o.dst, none, none, none⟩
  | none => .fail
def exOps (E : Env) (keys : List Nat) (all : Array Oper) : List Oper → St → Out (List Upd × St)
  | [], st => .leaf ([], st)
  | o :: os, st => (evOp E keys all st o).bind fun u => (exOps E keys all os (st.app u)).bind fun r => .leaf (u :: r.1, r.2)
inductive Ex where
  | normal
  | exit (id : Nat)
  | ret
def Ex.is : Ex → Exit
  | .normal => .normal
  | .exit id => .exit id
  | .ret => .ret
def exLoop (f : St → Out (Ex × St)) : Nat → St → Out (Ex × St)
  | 0, _ => .fail
  | n + 1, st => (f st).bind fun r => match r.1 with
    | .normal => exLoop f n r.2
    | e => .leaf (e, r.2)
def exC (E : Env) : Code → St → Out (Ex × St)
  | .skip, st => .leaf (.normal, st)
  | .label _, st => .leaf (.normal, st)
  | .exit id, st => .leaf (.exit id, st)
  | .ret, st => .leaf (.ret, st)
  | .region _ ops draw, st => (exOps E (keysOf ops) ops ops.toList st).bind fun r => bif !draw || confB ops r.1 then .leaf (.normal, r.2) else .fail
  | .seq a b, st => (exC E a st).bind fun r => match r.1 with
    | .normal => exC E b r.2
    | e => .leaf (e, r.2)
  | .cond c x y, st => match st.opd c with
    | some (.one [.lit (.bool true)]) => exC E x st
    | some (.one [.lit (.bool false)]) => exC E y st
    | some (.one [.sym (.bool b)]) => .br b (exC E x st) (exC E y st)
    | _ => .fail
  | .block id c, st => (exC E c st).bind fun r => match r.1 with
    | .exit i => bif i == id then .leaf (.normal, r.2) else .leaf (.exit i, r.2)
    | e => .leaf (e, r.2)
  | .scope c, st => exC E c st
  | .loop c, st => exLoop (exC E c) 300 st
  | _, _ => .fail
def U.noPtr : U → Bool
  | .ptr _ _ => false
  | _ => true
def V.noPtr : V → Bool
  | [] => true
  | u :: r => u.noPtr && V.noPtr r
def allNoPtr : List V → Bool
  | [] => true
  | v :: r => V.noPtr v && allNoPtr r
def res1 (E : Env) (st : St) : ResultVar → Option V
  | .tmp t => match (nth st.slots t).getD none with
    | some (.one v) => some v
    | _ => none
  | .cell p t => match (nth st.slots p).getD none, look E.ty t with
    | some (.one [.ptr b o]), some y => match look st.boxes b with
      | some B => V.grab B.us o y.size
      | none => none
    | _, _ => none
def resAll (E : Env) (st : St) : List ResultVar → Option (List V)
  | [] => some []
  | r :: l => match res1 E st r, resAll E st l with
    | some v, some vs => some (v :: vs)
    | _, _ => none
def resT : List V → T
  | [v] => .one v
  | l => .tup l
def nones : Nat → List (Option T)
  | 0 => []
  | n + 1 => none :: nones n
def exFn (E : Env) (fn : Func) (args : List V) : Out T := match fn.body with
  | none => .fail
  | some c => bif allNoPtr args then (exC E c ⟨args.map (fun v => some (.one v)) ++ nones (fn.ntmps - args.length), [], 0⟩).bind fun r => match r.1 with
      | .exit _ => .fail
      | _ => match resAll E r.2 fn.results.toList with
        | some l => bif allNoPtr l then .leaf (resT l) else .fail
        | none => .fail
    else .fail
section
variable {E : Env} {S0 : Nat → Prop} {C : Ctx} {w wf : World} {st st' : St} {a : Act} {ops : Array Oper} {Q : Exit → Act → World → Prop}
theorem guardV_is {o : Oper} {b : Bool} (h : guardV ops st o = some b) : guardIs ops st o b := by
  unfold guardV at h
  unfold guardIs
  cases hg : o.guard with
  | none => rw [hg] at h; cases h; rfl
  | some g =>
    obtain ⟨g, want⟩ := g
    rw [hg] at h
    dsimp only at h ⊢
    split at h
    · rename_i d hd
      split at h
      · rename_i c hc
        cases h
        exact ⟨d, c, hd, hc, rfl⟩
      · cases h
    · cases h
theorem key_gets {keys : List Nat} {u v : Upd} (h : (u.key keys).gets v) : v.dst = u.dst ∧ v.rb = u.rb ∧ v.box = u.box ∧ (v.t = u.t ∨ ∃ t t', u.t = some t ∧ v.t = some t' ∧ T.sub t t') := by
  unfold Upd.key at h
  split at h
  · rename_i d b hd ht
    cases hm : memN keys d
    · rw [hm] at h
      obtain rfl := h
      exact ⟨rfl, rfl, rfl, .inl rfl⟩
    · rw [hm] at h
      rcases h with ⟨hb, rfl⟩ | ⟨hb, rfl⟩
      · subst hb
        exact ⟨rfl, rfl, rfl, .inr ⟨_, _, ht, rfl, fun _ _ _ h => h⟩⟩
      · subst hb
        exact ⟨rfl, rfl, rfl, .inr ⟨_, _, ht, rfl, fun _ _ _ h => h⟩⟩
  · obtain rfl := h
    exact ⟨rfl, rfl, rfl, .inl rfl⟩
theorem evOp_gets {keys : List Nat} {o : Oper} {u : Upd} (h : (evOp E keys ops st o).gets u) : Ev E ops o st u := by
  unfold evOp at h
  split at h
  · rename_i hg
    split at h
    · rename_i e he
      obtain ⟨v, h1, h2⟩ := gets_bind h
      obtain ⟨k1, k2, k3, k4⟩ := key_gets h2
      have key : v.dst = o.dst ∧ v.rb = boxesOf st o.op ∧ EffUpd E st u e := by
        cases e with
        | val t =>
          obtain rfl := h1
          refine ⟨rfl, rfl, k3, ?_⟩
          rcases k4 with k4 | ⟨x, y, k5, k6, k7⟩
          · exact ⟨t, k4, T.sub_refl t⟩
          · cases k5; exact ⟨y, k6, k7⟩
        | new B =>
          simp only [mkUpd] at h1
          split at h1
          · rename_i hl hb
            obtain rfl := h1
            refine ⟨rfl, hb.symm, st.next, k2, k3, hl, ?_⟩
            rcases k4 with k4 | ⟨x, y, k5, k6, k7⟩
            · exact k4
            · cases k5
              unfold Upd.key at h2
              split at h2
              · rename_i hx
                cases hx
              · obtain rfl := h2
                rfl
          · exact h1.elim
        | put b off n x c =>
          simp only [mkUpd] at h1
          split at h1
          · rename_i B hB
            obtain rfl := h1
            refine ⟨rfl, rfl, ?_, B, hB, k3⟩
            rcases k4 with k4 | ⟨x, y, k5, k6, k7⟩
            · exact k4
            · cases k5
          · exact h1.elim
        | call f args =>
          simp only [mkUpd] at h1
          split at h1
          · rename_i con hcon
            obtain ⟨t, h3, h4⟩ := gets_bind h1
            obtain rfl := h4
            refine ⟨rfl, rfl, k3, con, ?_⟩
            rcases k4 with k4 | ⟨x, y, k5, k6, k7⟩
            · exact ⟨t, t, hcon, h3, k4, T.sub_refl t⟩
            · cases k5; exact ⟨_, y, hcon, h3, k6, k7⟩
          · exact h1.elim
      exact ⟨k1.trans key.1, .inl ⟨guardV_is hg, k2.trans key.2.1, e, he, key.2.2⟩⟩
    · exact h.elim
  · rename_i hg
    obtain rfl := h
    exact ⟨rfl, .inr ⟨guardV_is hg, rfl, rfl, rfl⟩⟩
  · exact h.elim
theorem exOps_path {keys : List Nat} : ∀ (os : List Oper) {st : St} {us : List Upd} {st' : St}, (exOps E keys ops os st).gets (us, st') → Path E ops os st us ∧ st' = us.foldl St.app st
  | [], st, us, st', h => by
    simp only [exOps, Out.gets, Prod.mk.injEq] at h
    obtain ⟨rfl, rfl⟩ := h
    exact ⟨rfl, rfl⟩
  | o :: os, st, us, st', h => by
    simp only [exOps] at h
    obtain ⟨u, h1, h2⟩ := gets_bind h
    obtain ⟨⟨r, s⟩, h3, h4⟩ := gets_bind h2
    simp only [Out.gets, Prod.mk.injEq] at h4
    obtain ⟨rfl, rfl⟩ := h4
    obtain ⟨h5, h6⟩ := exOps_path os h3
    exact ⟨⟨u, r, rfl, evOp_gets h1, h5⟩, h6⟩
theorem cnt_none {n : Nat} : cnt (fun i => (Array.replicate n false).getD i false) n = n := by
  have : ∀ m, cnt (fun i => (Array.replicate n false).getD i false) m = m := fun m => by
    induction m with
    | zero => rfl
    | succ m ih =>
      simp only [cnt]
      rw [ih, if_neg (by rw [getD_replicate_false]; simp)]
  exact this n
theorem InvE.drawn (h : InvE S0 wf C st a w) : InvE S0 wf C st a { w with drawn := w.drawn + 1 } := by
  have hb : Bel w { w with drawn := w.drawn + 1 } := (Bel.refl w).drew
  exact ⟨h.bel.trans hb, h.defers, h.size, ⟨fun t x hx => by obtain ⟨v, h1, h2⟩ := h.sees.slot t x hx; exact ⟨v, h1, T.rel_stp h2 (hb.stp _)⟩, fun b B hB => by
    obtain ⟨r, cs, h1, h2, h3, h4⟩ := h.sees.box b B hB
    exact ⟨r, cs, h1, h2, V.rel_stp h3 (hb.stp _), h4⟩⟩, h.inj, h.dom, h.own, h.lt, h.base, h.sup⟩
theorem region_sound (hE : E.Ok) {id : Nat} {draw : Bool} {e : Ex} {st' : St} (h : (exC E (.region id ops draw) st).gets (e, st')) (hi : InvE S0 wf C st a w) (hQ : ∀ C a w, InvE S0 wf C st' a w → Q e.is a w) : (Code.region id ops draw).wp E.P Q a w := by
  simp only [exC] at h
  obtain ⟨⟨us, s⟩, h1, h2⟩ := gets_bind h
  obtain ⟨h3, h4⟩ := exOps_path _ h1
  cases hb : (!draw || confB ops us)
  · rw [hb] at h2; exact h2.elim
  · rw [hb] at h2
    simp only [cond_true, Out.gets, Prod.mk.injEq] at h2
    obtain ⟨rfl, rfl⟩ := h2
    cases draw with
    | false =>
      exact wp_region_list (path_text hE _ h3 hi (fun C a w hi => hQ C a w (by rw [h4]; exact hi)))
    | true =>
      refine wp_region_any hE.mixed ?_
      simp only [Bool.not_true, Bool.false_or] at hb
      have hm : ∀ (us : List Upd) (st : St) (i : Nat), mfold st us (fun i => (Array.replicate ops.size false).getD i false) i = st := fun us => by
        induction us with
        | nil => intro _ _; rfl
        | cons x xs ih => intro st i; simp only [mfold]; rw [getD_replicate_false]; exact ih st (i + 1)
      refine path_any hE h3 hb (fun C a w hi => hQ C a w (by rw [h4]; exact hi)) ops.size (Array.replicate ops.size false) a _ C cnt_none (by simp) (fun j o _ hl => (by rw [getD_replicate_false] at hl; cases hl)) ?_
      rw [hm]
      exact hi.drawn
theorem loop_sound {c : Code} (hc : ∀ {st : St} {e : Ex} {st' : St} {C : Ctx} {a : Act} {w : World} {Q : Exit → Act → World → Prop}, (exC E c st).gets (e, st') → InvE S0 wf C st a w → (∀ C a w, InvE S0 wf C st' a w → Q e.is a w) → c.wp E.P Q a w) :
    ∀ (n : Nat) {st : St} {e : Ex} {st' : St} {C : Ctx} {a : Act} {w : World}, (exLoop (exC E c) n st).gets (e, st') → InvE S0 wf C st a w → (∀ C a w, InvE S0 wf C st' a w → Q e.is a w) → Code.rounds E.P c Q n a w
  | 0, _, _, _, _, _, _, h, _, _ => h.elim
  | n + 1, st, e, st', C, a, w, h, hi, hQ => by
    simp only [exLoop] at h
    obtain ⟨⟨e1, s1⟩, h1, h2⟩ := gets_bind h
    rw [rounds_succ]
    refine hc h1 hi (fun C' a' w' hi' => ?_)
    cases e1 with
    | normal => exact loop_sound hc n h2 hi' hQ
    | exit id =>
      simp only [Out.gets, Prod.mk.injEq] at h2
      obtain ⟨rfl, rfl⟩ := h2
      exact hQ C' a' w' hi'
    | ret =>
      simp only [Out.gets, Prod.mk.injEq] at h2
      obtain ⟨rfl, rfl⟩ := h2
      exact hQ C' a' w' hi'
theorem exC_sound (hE : E.Ok) : ∀ (c : Code) {st : St} {e : Ex} {st' : St} {C : Ctx} {a : Act} {w : World} {Q : Exit → Act → World → Prop}, (exC E c st).gets (e, st') → InvE S0 wf C st a w → (∀ C a w, InvE S0 wf C st' a w → Q e.is a w) → c.wp E.P Q a w := by
  intro c
  induction c with
  | skip =>
    intro st e st' C a w Q h hi hQ
    simp only [exC, Out.gets, Prod.mk.injEq] at h
    obtain ⟨rfl, rfl⟩ := h
    exact wp_skip (hQ C a w hi)
  | label l =>
    intro st e st' C a w Q h hi hQ
    simp only [exC, Out.gets, Prod.mk.injEq] at h
    obtain ⟨rfl, rfl⟩ := h
    exact wp_label (hQ C a w hi)
  | exit id =>
    intro st e st' C a w Q h hi hQ
    simp only [exC, Out.gets, Prod.mk.injEq] at h
    obtain ⟨rfl, rfl⟩ := h
    exact wp_exit (hQ C a w hi)
  | ret =>
    intro st e st' C a w Q h hi hQ
    simp only [exC, Out.gets, Prod.mk.injEq] at h
    obtain ⟨rfl, rfl⟩ := h
    exact wp_ret (hQ C a w hi)
  | region id ops draw =>
    intro st e st' C a w Q h hi hQ
    exact region_sound hE h hi hQ
  | seq x y ihx ihy =>
    intro st e st' C a w Q h hi hQ
    simp only [exC] at h
    obtain ⟨⟨e1, s1⟩, h1, h2⟩ := gets_bind h
    refine wp_seq (ihx h1 hi (fun C' a' w' hi' => ?_))
    cases e1 with
    | normal => exact ihy h2 hi' hQ
    | exit id =>
      simp only [Out.gets, Prod.mk.injEq] at h2
      obtain ⟨rfl, rfl⟩ := h2
      exact hQ C' a' w' hi'
    | ret =>
      simp only [Out.gets, Prod.mk.injEq] at h2
      obtain ⟨rfl, rfl⟩ := h2
      exact hQ C' a' w' hi'
  | cond c x y ihx ihy =>
    intro st e st' C a w Q h hi hQ
    simp only [exC] at h
    have hb : ∀ {u : U} {b : Bool}, st.opd c = some (.one [u]) → u.val.map (·.2) = some (.bool b) → a.eval c = .bool b := fun {u b} hc hu => by
      cases hv : u.val with
      | none => rw [hv] at hu; cases hu
      | some p =>
        obtain ⟨l, v⟩ := p
        rw [hv] at hu
        cases hu
        exact val_of hv (hi.sees.opd hc)
    split at h
    · rename_i hc; exact wp_cond_true (hb hc rfl) (ihx h hi hQ)
    · rename_i hc; exact wp_cond_false (hb hc rfl) (ihy h hi hQ)
    · rename_i b hc
      rcases h with ⟨rfl, h⟩ | ⟨rfl, h⟩
      · exact wp_cond_true (hb hc rfl) (ihx h hi hQ)
      · exact wp_cond_false (hb hc rfl) (ihy h hi hQ)
    · exact h.elim
  | block id c ih =>
    intro st e st' C a w Q h hi hQ
    simp only [exC] at h
    obtain ⟨⟨e1, s1⟩, h1, h2⟩ := gets_bind h
    refine wp_block (ih h1 hi (fun C' a' w' hi' => ?_))
    cases e1 with
    | normal =>
      simp only [Out.gets, Prod.mk.injEq] at h2
      obtain ⟨rfl, rfl⟩ := h2
      exact hQ C' a' w' hi'
    | ret =>
      simp only [Out.gets, Prod.mk.injEq] at h2
      obtain ⟨rfl, rfl⟩ := h2
      exact hQ C' a' w' hi'
    | exit i =>
      by_cases hid : i = id
      · simp only [hid, beq_self_eq_true, cond_true, Out.gets, Prod.mk.injEq] at h2
        obtain ⟨rfl, rfl⟩ := h2
        simp only [Ex.is, Exit.inBlock, hid, if_true]
        exact hQ C' a' w' hi'
      · have : (i == id) = false := by simp [hid]
        simp only [this, cond_false, Out.gets, Prod.mk.injEq] at h2
        obtain ⟨rfl, rfl⟩ := h2
        simp only [Ex.is, Exit.inBlock, hid, if_false]
        exact hQ C' a' w' hi'
  | scope c ih =>
    intro st e st' C a w Q h hi hQ
    simp only [exC] at h
    refine wp_scope_straight (ih h hi (fun C' a' w' hi' => ?_))
    have := hQ C' a' w' hi'
    cases e <;> exact this
  | loop c ih =>
    intro st e st' C a w Q h hi hQ
    simp only [exC] at h
    exact wp_loop_rounds 300 (loop_sound (fun h hi hQ => ih h hi hQ) 300 h hi hQ)
  | _ => intro st e st' C a w Q h hi hQ; exact h.elim
end
section
variable {E : Env} {S0 : Nat → Prop} {C C' : Ctx} {w wf : World} {st st' : St} {a : Act} {Q : Exit → Act → World → Prop}
theorem U.rel_drop {u : U} {cs : List Value} (h : u.rel C w cs) (hn : u.noPtr = true) (hs : ∀ b, C'.S b → C.S b) : u.rel C' w cs := by
  cases u <;> simp only [U.rel] at h ⊢ <;> try exact h
  case ptr => cases hn
  case sl => obtain ⟨G, h1, h2, h3⟩ := h; exact ⟨G, h1, h2, fun i u hi => ⟨fun h => (h3 i u hi).1 (hs G h), (h3 i u hi).2⟩⟩
  case pts =>
    obtain ⟨p, c, h1, h2, h3⟩ := h
    exact ⟨p, c, h1, h2, fun hne => by obtain ⟨G, o, h4, h5⟩ := h3 hne; exact ⟨G, o, h4, h5.le (fun b _ => hs b)⟩⟩
  case ept => obtain ⟨G, o, h1, h2⟩ := h; exact ⟨G, o, h1, h2.le (fun b _ => hs b)⟩
theorem V.rel_drop : ∀ {x : V} {cs : List Value}, x.rel C w cs → x.noPtr = true → (∀ b, C'.S b → C.S b) → x.rel C' w cs
  | [], _, h, _, _ => h
  | _ :: _, _, h, hn, hs => by
    obtain ⟨c1, c2, h0, h1, h2⟩ := h
    simp only [V.noPtr, Bool.and_eq_true] at hn
    exact ⟨c1, c2, h0, U.rel_drop h1 hn.1 hs, V.rel_drop h2 hn.2 hs⟩
theorem V.has_drop {x : V} {v : Value} (h : x.has C w v) (hn : x.noPtr = true) (hs : ∀ b, C'.S b → C.S b) : x.has C' w v := let ⟨cs, h1, h2⟩ := h; ⟨cs, V.rel_drop h1 hn hs, h2⟩
theorem V.all_drop : ∀ {l : List V} {vs : List Value}, V.hasAll C w l vs → allNoPtr l = true → (∀ b, C'.S b → C.S b) → V.hasAll C' w l vs
  | [], _, h, _, _ => h
  | _ :: _, _, h, hn, hs => by
    obtain ⟨v, r, h0, h1, h2⟩ := h
    simp only [allNoPtr, Bool.and_eq_true] at hn
    exact ⟨v, r, h0, V.has_drop h1 hn.1 hs, V.all_drop h2 hn.2 hs⟩
theorem resT_rel {l : List V} {vs : List Value} (h : V.hasAll C w l vs) : T.rel C w (resT l) (if h : vs.toArray.size = 1 then vs.toArray[0] else .tuple vs.toArray) := by
  match l, h with
  | [], h => simp only [V.hasAll] at h; subst h; exact ⟨[], rfl, rfl⟩
  | [x], h =>
    obtain ⟨v, r, rfl, h1, h2⟩ := h
    simp only [V.hasAll] at h2
    subst h2
    exact h1
  | x :: y :: l, h =>
    have h0 := h
    obtain ⟨v, r, rfl, -, u, s, rfl, -, -⟩ := h
    rw [dif_neg (by simp)]
    exact ⟨_, rfl, h0⟩
theorem hasAll_len : ∀ {l : List V} {vs : List Value}, V.hasAll C w l vs → vs.length = l.length
  | [], _, h => by simp only [V.hasAll] at h; subst h; rfl
  | _ :: _, _, h => by obtain ⟨v, r, rfl, _, h2⟩ := h; simp [hasAll_len h2]
theorem slot_of {t : Nat} {x : T} (hi : InvE S0 wf C st a w) (h : (nth st.slots t).getD none = some x) : T.rel C w x (a.tmps.getD t undef) := by
  cases hn : nth st.slots t with
  | none => rw [hn] at h; cases h
  | some y =>
    rw [hn] at h
    simp only [Option.getD_some] at h
    subst h
    obtain ⟨v, h1, h2⟩ := hi.sees.slot t x hn
    simp only [Array.getD_eq_getD_getElem?, h1, Option.getD_some]
    exact h2
theorem res1_run (hE : E.Ok) (hi : InvE S0 wf C st a w) {r : ResultVar} {x : V} (h : res1 E st r = some x) :
    ∃ v, (match r with | .tmp t => pure (a.tmps.getD t undef) | .cell p t => do loadVar t (← asAddr (a.tmps.getD p undef)) : Sem Value).run E.P w = .ok v w ∧ x.has C w v := by
  cases r with
  | tmp t =>
    simp only [res1] at h
    split at h
    · rename_i v hv
      cases h
      exact ⟨_, rfl, slot_of hi hv⟩
    · cases h
  | cell p t =>
    simp only [res1] at h
    split at h
    · rename_i b o y hb hy
      split at h
      · rename_i B hB
        obtain ⟨r, h1, h2⟩ := ptr_rel (slot_of hi hb)
        obtain ⟨r', cs, h3, h4, h5, -⟩ := hi.sees.box b B hB
        rw [h1] at h3
        cases h3
        obtain ⟨h6, h7⟩ := V.grab_rel h5 h
        have hl := load_run (hE.ty t y hy) h4 h6
        simp only [Instr.loadAt, Instr.sureAddr, Sem.run_bind, Sem.run_pure, Result.andThen_ok] at hl
        refine ⟨_, ?_, _, h7, rfl⟩
        dsimp only
        rw [h2]
        simp only [asAddr, Sem.run_bind, Sem.run_pure, Result.andThen_ok]
        exact hl
      · cases h
    · cases h
theorem resAll_run (hE : E.Ok) (hi : InvE S0 wf C st a w) : ∀ {l : List ResultVar} {xs : List V}, resAll E st l = some xs →
    ∃ vs, (l.mapM fun (r : ResultVar) => (match r with | .tmp t => pure (a.tmps.getD t undef) | .cell p t => do loadVar t (← asAddr (a.tmps.getD p undef)) : Sem Value)).run E.P w = .ok vs w ∧ V.hasAll C w xs vs
  | [], xs, h => by simp only [resAll, Option.some.injEq] at h; subst h; exact ⟨[], rfl, rfl⟩
  | r :: l, xs, h => by
    simp only [resAll] at h
    split at h
    · rename_i x ys hx hys
      cases h
      obtain ⟨v, h1, h2⟩ := res1_run hE hi hx
      obtain ⟨vs, h3, h4⟩ := resAll_run hE hi hys
      refine ⟨v :: vs, ?_, v, vs, rfl, h2, h4⟩
      rw [List.mapM_cons]
      simp only [Sem.run_bind, h1, Result.andThen_ok, h3, Sem.run_pure]
    · cases h
theorem nones_len : ∀ n, (nones n).length = n
  | 0 => rfl
  | n + 1 => by simp [nones, nones_len n]
theorem nones_at {x : T} : ∀ (n t : Nat), nth (nones n) t ≠ some (some x)
  | 0, _ => by simp [nones, nth]
  | n + 1, 0 => by simp [nones, nth]
  | n + 1, t + 1 => by simpa [nones, nth] using nones_at n t
theorem args_at : ∀ {l : List V} {vs : List Value} {n t : Nat} {x : T}, V.hasAll C w l vs → nth (l.map (fun v => some (T.one v)) ++ nones n) t = some (some x) → ∃ v, vs[t]? = some v ∧ T.rel C w x v
  | [], vs, n, t, x, _, h => absurd h (nones_at n t)
  | y :: l, vs, n, 0, x, ha, h => by
    obtain ⟨v, r, rfl, h1, _⟩ := ha
    simp only [List.map_cons, List.cons_append, nth, Option.some.injEq] at h
    subst h
    exact ⟨v, rfl, h1⟩
  | y :: l, vs, n, t + 1, x, ha, h => by
    obtain ⟨v, r, rfl, _, h2⟩ := ha
    simp only [List.map_cons, List.cons_append, nth] at h
    obtain ⟨u, h3, h4⟩ := args_at h2 h
    exact ⟨u, by simpa using h3, h4⟩
theorem fn_calls (hE : E.Ok) {f : FuncId} {fn : Func} (hf : E.P.funcs[f]? = some fn) {args : List V} {t : T} (h : (exFn E fn args).gets t) {vs : List Value} (hlt : ∀ r, C.S r → r < w.heap.size) (ha : V.hasAll C w args vs) :
    Calls E.P f (List.toArray vs) w (Makes w fun v w' => T.rel C w' t v) := by
  unfold exFn at h
  split at h
  · exact h.elim
  · rename_i c hb
    cases hn : allNoPtr args
    · rw [hn] at h; exact h.elim
    · rw [hn] at h
      simp only [cond_true] at h
      obtain ⟨⟨e, s⟩, h1, h2⟩ := gets_bind h
      refine calls_of_wp hf hb ?_
      have ha' : V.hasAll ⟨C.S, fun _ => none⟩ w args vs := V.all_drop ha hn (fun _ h => h)
      have hlen := hasAll_len ha
      have hi : InvE C.S w ⟨C.S, fun _ => none⟩ ⟨args.map (fun v => some (T.one v)) ++ nones (fn.ntmps - args.length), [], 0⟩ { tmps := List.toArray vs ++ Array.replicate (fn.ntmps - (List.toArray vs).size) undef, defers := [] } w :=
        { bel := Bel.refl w, defers := rfl, size := by simp [nones_len, hlen], inj := fun b b' r h => (by cases h), dom := fun _ _ => rfl, own := fun b r h => (by cases h), lt := hlt, base := fun b r h => (by cases h), sup := fun _ h => h
          sees := ⟨fun t x hx => by
            obtain ⟨v, h3, h4⟩ := args_at ha' hx
            refine ⟨v, ?_, h4⟩
            have := (List.getElem?_eq_some_iff.1 h3).1
            rw [Array.getElem?_append_left (by simpa using this)]
            simpa using h3, fun b B hB => (by cases hB)⟩ }
      have hfin : ∀ (C' : Ctx) (a : Act) (w' : World), InvE C.S w C' s a w' → (match resAll E s fn.results.toList with | some l => bif allNoPtr l then Out.leaf (resT l) else .fail | none => .fail).gets t → a.defers = [] ∧ ∃ v, (results fn a.tmps).run E.P w' = .ok v w' ∧ Makes w (fun v w' => T.rel C w' t v) (.returned v) w' := fun C' a w' hi' h2 => by
        refine ⟨hi'.defers, ?_⟩
        split at h2
        · rename_i l hl
          cases hnl : allNoPtr l
          · rw [hnl] at h2; exact h2.elim
          · rw [hnl] at h2
            simp only [cond_true, Out.gets] at h2
            subst h2
            obtain ⟨rs, h3, h4⟩ := resAll_run hE hi' hl
            refine ⟨_, ?_, _, rfl, hi'.bel, resT_rel (V.all_drop h4 hnl hi'.sup)⟩
            unfold results
            rw [Array.mapM_eq_mapM_toList]
            simp only [Sem.run_bind, Sem.run_map, Sem.run_pure]
            exact congrArg (fun (r : Result (List Value)) => (r.andThen fun a w' => Result.ok a.toArray w').andThen fun (a : Array Value) w' => Result.ok (if h : a.size = 1 then a[0] else Value.tuple a) w') h3
        · exact h2.elim
      refine exC_sound hE c h1 hi (fun C' a w' hi' => ?_)
      cases e with
      | normal => exact hfin C' a w' hi' h2
      | ret => exact hfin C' a w' hi' h2
      | exit id => exact h2.elim
theorem fn_tree (hE : E.Ok) {f : FuncId} {fn : Func} (hf : E.P.funcs[f]? = some fn) {args : List V} {o : Out T} {t : T} (he : exFn E fn args = o) (h : o.gets t) {vs : List Value} (hlt : ∀ r, C.S r → r < w.heap.size) (ha : V.hasAll C w args vs) :
    Calls E.P f (List.toArray vs) w (Makes w fun v w' => T.rel C w' t v) := by
  subst he
  exact fn_calls hE hf h hlt ha
theorem OkCon.fn (hE : E.Ok) {f : FuncId} {fn : Func} {c : Code} (hf : E.P.funcs[f]? = some fn) (hb : fn.body = some c) (hname : (fn.name == "runtime.NumGoroutine") = false) : OkCon E.P f (exFn E fn) :=
  ⟨fun vs w => Go.MuLone.run_callFunc_enter hf hname hb vs w, fun _ _ h _ _ _ hlt ha => fn_calls hE hf h hlt ha⟩
end
end Go.Proofs.YtafmfnpjhhaikaaGreatDoor
