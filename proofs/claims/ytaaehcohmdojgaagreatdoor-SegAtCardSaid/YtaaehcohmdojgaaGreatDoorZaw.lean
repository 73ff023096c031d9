/-
  The evaluator's state, and one operation: what it makes of it.
-/
import Derived.Test.YtaaehcohmdojgaaGreatDoorZav
namespace Go.Proofs.YtaaehcohmdojgaaGreatDoor
open Go.RowKit Go.Shelf

theorem splice_mid : ∀ (vs pre old s : List Value), old.length = vs.length → splice (pre ++ old ++ s) pre.length vs = pre ++ vs ++ s
  | [], pre, old, s, h => by simp at h; simp [splice, h]
  | v :: r, pre, [], s, h => by simp at h
  | v :: r, pre, x :: old, s, h => by
    have := splice_mid r (pre ++ [v]) old s (by simpa using h)
    simp only [List.length_append, List.length_singleton, List.append_assoc, List.cons_append, List.nil_append] at this
    simp only [List.append_assoc, List.cons_append]
    rw [← this]
    simp [splice]
structure Upd where
  dst : Option Tmp
  t : Option T
  rb : List Nat
  box : Option (Nat × Box)
  nw : Bool
def setNth {α : Type} : List α → Nat → α → List α
  | [], _, _ => []
  | _ :: l, 0, x => x :: l
  | y :: l, n + 1, x => y :: setNth l n x
def St.app (st : St) (u : Upd) : St where
  slots := match u.dst with | some d => setNth st.slots d u.t | none => st.slots
  boxes := match u.box with | some p => p :: st.boxes | none => st.boxes
  next := bif u.nw then st.next + 1 else st.next
def T.sub (x y : T) : Prop := ∀ C w v, x.rel C w v → y.rel C w v
theorem T.sub_refl (x : T) : T.sub x x := fun _ _ _ h => h
def Out.gets {α : Type} : Out α → α → Prop
  | .fail, _ => False
  | .leaf x, y => x = y
  | .need p k, y => p ∧ k.gets y
  | .chk b k, y => b = true ∧ k.gets y
  | .br b k l, y => (b = true ∧ k.gets y) ∨ (b = false ∧ l.gets y)
/-- A contract, as the evaluator takes it. -/
structure OkCon (P : Program) (f : FuncId) (c : Con) : Prop where
  enter : ∀ vs w, (callFunc f vs).run P w = .ok (.enter f vs) w
  calls : ∀ args t, (c args).gets t → ∀ C w vs, (∀ r, C.S r → r < w.heap.size) → V.hasAll C w args vs → Calls P f (List.toArray vs) w (Makes w fun v w' => T.rel C w' t v)
structure Env.Ok (E : Env) : Prop where
  ty : ∀ t y, look E.ty t = some y → TyOk E.P t y
  con : ∀ f c, look E.con f = some c → OkCon E.P f c
  mixed : E.P.follows .mixedOrders = true
def ownsOf : List (Option T) → List Nat
  | [] => []
  | some (.one [.own b _]) :: r => b :: ownsOf r
  | _ :: r => ownsOf r
def boxesOf (st : St) : Op → List Nat
  | .load _ x | .store _ x _ => match st.opd x with
    | some (.one [.ptr b _]) => [b]
    | _ => []
  | .call c => match c.callee with
    | .value _ | .builtin .append => ownsOf (c.args.toList.map st.opd)
    | _ => []
  | _ => []
/-- The state's word on a guard. -/
def guardIs (all : Array Oper) (st : St) (o : Oper) (b : Bool) : Prop := match o.guard with
  | none => b = true
  | some (g, want) => ∃ d v, ((all[g]?).bind (·.dst)) = some d ∧ nth st.slots d = some (some (.one [.lit v])) ∧ b = (match v with | .bool c => c == want | _ => false)
def EffUpd (E : Env) (st : St) (u : Upd) : Eff → Prop
  | .val t => u.box = none ∧ ∃ t', u.t = some t' ∧ T.sub t t'
  | .new B => ∃ id, u.box = some (id, B) ∧ look st.boxes id = none ∧ st.live id = true ∧ u.t = some (.one [newU id B])
  | .put b _ _ _ c => u.t = none ∧ ∃ B, look st.boxes b = some B ∧ u.box = some (b, ⟨B.ty, c, B.el, B.src, B.full⟩)
  | .call f args fz => u.box = none ∧ ∃ con t t', look E.con f = some con ∧ (con args).gets t ∧ (fz.isEmpty || T.flat t) = true ∧ u.t = some t' ∧ T.sub t t'
/-- What the operation makes of the state, by the text. -/
def Ev (E : Env) (all : Array Oper) (o : Oper) (st : St) (u : Upd) : Prop :=
  u.dst = o.dst ∧ ((guardIs all st o true ∧ u.rb = boxesOf st o.op ∧ ∃ e, opEval E st o.op = some e ∧ EffUpd E st u e) ∨ (guardIs all st o false ∧ (∀ t, u.t = some t → t = .one [.lit undef]) ∧ u.box = none))
structure InvE (S0 : Nat → Prop) (wf : World) (C : Ctx) (st : St) (a : Act) (w : World) : Prop where
  bel : Bel wf w
  defers : a.defers = []
  size : st.slots.length = a.tmps.size
  sees : Sees C w st a
  inj : ∀ b b' r B B', st.at b = some B → st.at b' = some B' → C.β b = some r → C.β b' = some r → b = b'
  dom : ∀ b, look st.boxes b = none → C.β b = none
  own : ∀ b r, C.β b = some r → C.S r
  lt : ∀ r, C.S r → r < w.heap.size
  base : ∀ b r, C.β b = some r → wf.heap.size ≤ r
  sup : ∀ r, S0 r → C.S r
theorem set_len {α : Type} : ∀ (l : List α) (n : Nat) (x : α), (setNth l n x).length = l.length
  | [], _, _ => rfl
  | _ :: _, 0, _ => rfl
  | _ :: l, n + 1, x => by simp [setNth, set_len l n x]
theorem nth_set {α : Type} : ∀ (l : List α) (n m : Nat) (x : α), nth (setNth l n x) m = if n = m then (if n < l.length then some x else none) else nth l m
  | [], n, m, x => by simp [setNth, nth]
  | y :: l, 0, 0, x => by simp [setNth, nth]
  | y :: l, 0, m + 1, x => by simp [setNth, nth]
  | y :: l, n + 1, 0, x => by simp [setNth, nth]
  | y :: l, n + 1, m + 1, x => by
    simp only [setNth, nth, nth_set l n m x, List.length_cons]
    by_cases h : n = m
    · subst h; simp
    · simp [h]
theorem nth_app (st : St) (u : Upd) (t : Nat) : nth (st.app u).slots t = if u.dst = some t then (if t < st.slots.length then some u.t else none) else nth st.slots t := by
  unfold St.app
  cases hd : u.dst with
  | none => simp
  | some d =>
    simp only [nth_set, Option.some.injEq]
    by_cases h : d = t
    · subst h; simp
    · simp [h]
theorem app_len (st : St) (u : Upd) : (st.app u).slots.length = st.slots.length := by
  unfold St.app
  cases u.dst <;> simp [set_len]
theorem look_app (st : St) (u : Upd) (b : Nat) : look (st.app u).boxes b = match u.box with
    | some (b', B) => if b' = b then some B else look st.boxes b
    | none => look st.boxes b := by
  unfold St.app
  cases hb : u.box with
  | none => rfl
  | some p =>
    obtain ⟨b', B⟩ := p
    simp only [look]
    by_cases h : b' = b
    · simp [h]
    · have : (b' == b) = false := by simp [h]
      simp [this, h]
theorem live_app (st : St) (u : Upd) (b : Nat) : (st.app u).live b = match u.box with
    | some (_, B) => (match B.src with | some s => !(s == b) | none => true) && st.live b
    | none => st.live b := by
  unfold St.live St.app
  cases hb : u.box with
  | none => rfl
  | some p => rfl
theorem at_none {st : St} {u : Upd} (hu : u.box = none) (b : Nat) : (st.app u).at b = st.at b := by
  unfold St.at
  rw [live_app, look_app, hu]
theorem at_app {st : St} {u : Upd} {b : Nat} {B : Box} (hu : u.box = some (b, B)) {b' : Nat} {D : Box} (h : (st.app u).at b' = some D) : B.src ≠ some b' ∧ ((b' = b ∧ D = B ∧ st.live b = true) ∨ (b' ≠ b ∧ st.at b' = some D)) := by
  obtain ⟨h1, h2⟩ := look_of_at h
  rw [live_app, hu] at h2
  rw [look_app, hu] at h1
  simp only [Bool.and_eq_true] at h2
  dsimp only at h1
  refine ⟨fun e => ?_, ?_⟩
  · rw [e] at h2; simp at h2
  · split at h1
    · rename_i hb
      cases h1
      exact .inl ⟨hb.symm, rfl, by rw [hb]; exact h2.2⟩
    · rename_i hb
      refine .inr ⟨fun e => hb e.symm, ?_⟩
      unfold St.at
      rw [h2.2]
      exact h1
theorem put_at {a : Act} {d : Option Tmp} {v : Value} {t : Nat} : (a.put d v).tmps[t]? = if d = some t then (if t < a.tmps.size then some v else none) else a.tmps[t]? := by
  cases d with
  | none => simp [Act.put]
  | some d =>
    simp only [Act.put, Option.some.injEq]
    rw [Array.getElem?_setIfInBounds]
    by_cases h : d = t
    · subst h; simp
    · simp [h]
section
variable {E : Env} {S0 : Nat → Prop} {C : Ctx} {w wf : World} {st : St} {a : Act}
theorem InvE.slots_put (h : InvE S0 wf C st a w) {u : Upd} {v : Value} {C' : Ctx} {w' : World} (hs : Stp C.S w w') (hc : Ctx.le w' C C') (hv : ∀ t, u.t = some t → t.rel C' w' v) :
    ∀ t x, nth (st.app u).slots t = some (some x) → ∃ v', (a.put u.dst v).tmps[t]? = some v' ∧ T.rel C' w' x v' := by
  intro t x hx
  rw [nth_app] at hx
  rw [put_at]
  by_cases hd : u.dst = some t
  · rw [if_pos hd] at hx ⊢
    split at hx
    · rename_i hlt
      simp only [Option.some.injEq] at hx
      rw [if_pos (by rw [← h.size]; exact hlt)]
      exact ⟨v, rfl, hv x hx⟩
    · cases hx
  · rw [if_neg hd] at hx ⊢
    obtain ⟨v', h1, h2⟩ := h.sees.slot t x hx
    exact ⟨v', h1, T.rel_le (T.rel_stp h2 hs) hc⟩
theorem InvE.slots_size (h : InvE S0 wf C st a w) (u : Upd) (v : Value) : (st.app u).slots.length = (a.put u.dst v).tmps.size := by
  rw [app_len, h.size]
  exact (put_size a u.dst v).symm
theorem put_defers (a : Act) (d : Option Tmp) (v : Value) : (a.put d v).defers = a.defers := by cases d <;> rfl
/-- Something is yielded; no box changes. -/
theorem InvE.value (h : InvE S0 wf C st a w) {u : Upd} {v : Value} {w' : World} (hb : Bel w w') (hu : u.box = none) (hv : ∀ t, u.t = some t → t.rel C w' v) : InvE S0 wf C (st.app u) (a.put u.dst v) w' where
  bel := h.bel.trans hb
  defers := by rw [put_defers]; exact h.defers
  size := h.slots_size u v
  sees := ⟨h.slots_put (hb.stp _) (Ctx.le_refl _ _) hv, fun b B hB => by
    rw [at_none hu] at hB
    obtain ⟨r, cs, js, h1, h2, h3, h4, h5, h6⟩ := h.sees.box b B hB
    exact ⟨r, cs, js, h1, hb.heap h2, V.rel_stp h3 (hb.stp _), h4, h5, h6⟩⟩
  inj := fun b b' r B B' hB hB' => by
    rw [at_none hu] at hB hB'
    exact h.inj b b' r B B' hB hB'
  dom := fun b hB => h.dom b (by rw [look_app, hu] at hB; exact hB)
  own := h.own
  lt := fun r hr => Nat.lt_of_lt_of_le (h.lt r hr) hb.size
  base := h.base
  sup := h.sup
theorem newU_rel {C : Ctx} {w : World} {id r : Nat} {B : Box} (hβ : C.β id = some r) : T.rel C w (.one [newU id B]) (newVal B r (C.κ id)) := by
  unfold newU newVal
  by_cases h : B.el = 0
  · simp only [h, beq_self_eq_true, cond_true, if_true]
    exact one_of ⟨r, hβ, rfl⟩
  · have : (B.el == 0) = false := by simp [h]
    simp only [this, cond_false, h, if_false]
    exact one_of ⟨r, hβ, rfl⟩
theorem InvE.new (h : InvE S0 wf C st a w) {u : Upd} {id r c : Nat} {B : Box} {cs js : List Value} {w' : World} (hu : u.box = some (id, B)) (ht : u.t = some (.one [newU id B])) (hf : look st.boxes id = none) (hlv : st.live id = true) (hM : Made C st w w' B r c cs js) :
    ∃ C', InvE S0 wf C' (st.app u) (a.put u.dst (newVal B r c)) w' := by
  have hnone := h.dom id hf
  have hltb : ∀ b r, C.β b = some r → r < w.heap.size := fun b r hr => h.lt r (h.own b r hr)
  -- the block: new, or that of the row that is gone on
  have hrc : C.S r ∨ r = w.heap.size := hM.fresh.symm.imp (fun ⟨b, _, hb⟩ => h.own b r hb) (fun h => h)
  have hrb : wf.heap.size ≤ r := by
    rcases hM.fresh with he | ⟨b, _, hb⟩
    · rw [he]; exact h.bel.size
    · exact h.base b r hb
  have hb : Bel wf w' := Below.grown h.bel hM.grown (Below.size h.bel) (fun k hk => by cases hk; exact hrb)
  have hsz := hM.grown.size
  have hrlt : r < w'.heap.size := heap_lt hM.heap
  have hblk : ∀ b o, w.heap[b]? = some o → b ≠ r → w'.heap[b]? = some o := fun b o ho hne => (hM.grown.block b (heap_lt ho) (fun e => hne (Option.some.inj e))).trans ho
  -- what stood in it is plain
  have hold : ∀ o v, w.cell? ⟨r, o, none⟩ = some v → plainV v = true := fun o v hv => by
    rcases hM.fresh with he | ⟨b, hb1, hb2⟩
    · have := World.block_lt_of_cell? w _ hv
      dsimp only at this
      omega
    · obtain ⟨B0, hB0⟩ := hM.src b hb1
      obtain ⟨r', cs', js', h1, h2, -, h4, -⟩ := h.sees.box b B0 hB0
      rw [hb2] at h1
      cases h1
      rw [heap_cell h2, List.getElem?_toArray] at hv
      exact h4 v (List.mem_of_getElem? hv)
  have hlim : Lim w w' := fun b o x => by
    have key : ∀ v, plainV v = false → w.cell? ⟨b, o, none⟩ = some v → w'.cell? ⟨b, o, none⟩ = some v := fun v hp hv => by
      by_cases hbr : b = r
      · subst hbr
        rw [hold o v hv] at hp
        cases hp
      · have hlt := World.block_lt_of_cell? w _ hv
        exact (World.cell?_of_block (a := ⟨b, o, none⟩) (hM.grown.block b hlt (fun e => hbr (Option.some.inj e)))).trans hv
    exact ⟨key _ rfl, key _ rfl⟩
  have hst : Stp C.S w w' := ⟨hsz, hlim, fun b o ho hs => hblk b o ho (fun e => by
    subst e
    rcases hrc with hr | hr
    · exact hs hr
    · have := heap_lt ho; omega)⟩
  let C' : Ctx := ⟨fun x => C.S x ∨ x = r, fun i => if i = id then some r else C.β i, fun i => if i = id then c else C.κ i⟩
  have hne : ∀ i x, C.β i = some x → i ≠ id := fun i x hi e => by rw [e, hnone] at hi; cases hi
  have hle : Ctx.le w C C' := ⟨fun i x hi => by
    show (if i = id then some r else C.β i) = some x
    rw [if_neg (hne i x hi)]
    exact hi, fun i x hi => by
    show (if i = id then c else C.κ i) = C.κ i
    rw [if_neg (hne i x hi)], fun b hb' hS => hS.elim (fun hS => hS) fun e => by
    subst e
    exact hrc.resolve_right (by omega)⟩
  have hst' : Stp C'.S w w' := ⟨hsz, hlim, fun b o ho hs => hst.keep b o ho (fun e => hs (.inl e))⟩
  have hβ : ∀ b x, C'.β b = some x → (b = id ∧ x = r) ∨ (b ≠ id ∧ C.β b = some x) := fun b x hx => by
    by_cases hb : b = id
    · left
      have : C'.β b = some r := by show (if b = id then _ else _) = _; rw [if_pos hb]
      rw [this] at hx
      cases hx
      exact ⟨hb, rfl⟩
    · right
      have : C'.β b = C.β b := by show (if b = id then _ else _) = _; rw [if_neg hb]
      exact ⟨hb, this ▸ hx⟩
  have hrel : ∀ {t : T} {v : Value}, t.rel C w v → t.rel C' w' v := fun ht => T.rel_stp (T.rel_le ht hle) hst'
  have hid : C'.β id = some r := by show (if id = id then _ else _) = _; rw [if_pos rfl]
  have hidc : C'.κ id = c := by show (if id = id then _ else _) = _; rw [if_pos rfl]
  -- no other row that lives stands in the block
  have hapart : ∀ b D, b ≠ id → st.at b = some D → B.src ≠ some b → C.β b ≠ some r := fun b D _ hD hs hr => by
    rcases hM.fresh with he | ⟨b0, hb1, hb2⟩
    · have := hltb b r hr; omega
    · obtain ⟨B0, hB0⟩ := hM.src b0 hb1
      exact hs (by rw [← h.inj b0 b r B0 D hB0 hD hb2 hr]; exact hb1)
  refine ⟨C', hb, by rw [put_defers]; exact h.defers, h.slots_size u _, ⟨?_, ?_⟩, ?_, ?_, ?_, ?_, ?_, fun r hr => .inl (h.sup r hr)⟩
  · intro t x hx
    rw [nth_app] at hx
    rw [put_at]
    by_cases hd : u.dst = some t
    · rw [if_pos hd] at hx ⊢
      split at hx
      · rename_i hl
        rw [ht] at hx
        simp only [Option.some.injEq] at hx
        subst hx
        rw [if_pos (by rw [← h.size]; exact hl)]
        refine ⟨_, rfl, ?_⟩
        have := newU_rel (C := C') (w := w') (B := B) hid
        rwa [hidc] at this
      · cases hx
    · rw [if_neg hd] at hx ⊢
      obtain ⟨v', h1, h2⟩ := h.sees.slot t x hx
      exact ⟨v', h1, hrel h2⟩
  · intro b D hD
    obtain ⟨hs, ⟨rfl, rfl, -⟩ | ⟨hbi, hD⟩⟩ := at_app hu hD
    · exact ⟨r, cs, js, hid, hM.heap, V.rel_stp (V.rel_le hM.rel hle) hst', hM.plain, by rw [hidc]; exact hM.room, hM.full⟩
    · obtain ⟨x, ds, ls, h1, h2, h3, h4, h5, h6⟩ := h.sees.box b D hD
      refine ⟨x, ds, ls, hle.box _ _ h1, hblk x _ h2 (fun e => hapart b D hbi hD hs (by rw [← e]; exact h1)), V.rel_stp (V.rel_le h3 hle) hst', h4, ?_, h6⟩
      rw [hle.cap _ _ h1]
      exact h5
  · intro b b' x D D' hD hD' hr hr'
    obtain ⟨hs, hcase⟩ := at_app hu hD
    obtain ⟨hs', hcase'⟩ := at_app hu hD'
    rcases hcase with ⟨rfl, -, -⟩ | ⟨h1, h2⟩ <;> rcases hcase' with ⟨rfl, -, -⟩ | ⟨h3, h4⟩
    · rfl
    · rw [hid] at hr
      cases hr
      have := (hβ b' r hr').resolve_left (fun e => h3 e.1)
      exact absurd this.2 (hapart b' D' h3 h4 hs')
    · rw [hid] at hr'
      cases hr'
      have := (hβ b r hr).resolve_left (fun e => h1 e.1)
      exact absurd this.2 (hapart b D h1 h2 hs)
    · have k1 := (hβ b x hr).resolve_left (fun e => h1 e.1)
      have k2 := (hβ b' x hr').resolve_left (fun e => h3 e.1)
      exact h.inj b b' x D D' h2 h4 k1.2 k2.2
  · intro b hB
    rw [look_app, hu] at hB
    dsimp only at hB
    split at hB
    · cases hB
    · rename_i hbi
      show (if b = id then _ else _) = _
      rw [if_neg (fun e => hbi e.symm)]
      exact h.dom b hB
  · intro b x hx
    rcases hβ b x hx with ⟨-, h2⟩ | ⟨-, h2⟩
    · exact .inr h2
    · exact .inl (h.own b x h2)
  · intro x hx
    rcases hx with hx | hx
    · have := h.lt x hx; omega
    · omega
  · intro b x hx
    rcases hβ b x hx with ⟨-, h2⟩ | ⟨-, h2⟩
    · rw [h2]; exact hrb
    · exact h.base b x h2
theorem InvE.put (h : InvE S0 wf C st a w) {u : Upd} {b r : Nat} {B : Box} {c : V} {p old s js vs : List Value} (hB : st.at b = some B) (hr : C.β b = some r) (hh : w.heap[r]? = some (.cells (List.toArray (p ++ old ++ (s ++ js))) B.ty (0, 0))) (ho : old.length = vs.length)
    (hc : c.rel C w (p ++ vs ++ s)) (hp : ∀ v ∈ vs, plainV v = true) (hu : u.box = some (b, ⟨B.ty, c, B.el, B.src, B.full⟩)) (ht : u.t = none) (hcl : c.size = B.us.size) : InvE S0 wf C (st.app u) (a.put u.dst undef) (w.setCells r p.length vs) := by
  obtain ⟨r', cs, js', h1, h2, h3, h4, h5, h6⟩ := h.sees.box b B hB
  rw [hr] at h1
  cases h1
  rw [hh] at h2
  simp only [Option.some.injEq, Obj.cells.injEq, Array.mk.injEq, and_true] at h2
  have hlen : (p ++ vs ++ s).length = cs.length := by rw [V.rel_len hc, V.rel_len h3, hcl]
  have hjs : js = js' ∧ p ++ old ++ s = cs := by
    have e : (p ++ old ++ s) ++ js = cs ++ js' := by rw [← h2, List.append_assoc (p ++ old)]
    have := List.append_inj e (by rw [← hlen]; simp [ho])
    exact ⟨this.2, this.1⟩
  obtain ⟨rfl, rfl⟩ := hjs
  have hsp : splice (p ++ old ++ (s ++ js)) p.length vs = p ++ vs ++ (s ++ js) := splice_mid vs p old (s ++ js) ho
  have h4' : ∀ v ∈ p ++ old ++ (s ++ js), plainV v = true := fun v hv => h4 v (by rw [List.append_assoc (p ++ old)]; exact hv)
  have hS : Sto wf w (w.setCells r p.length vs) r B.ty (p ++ vs ++ (s ++ js)) := stoM p.length vs (p ++ vs ++ (s ++ js)) hh h.bel (by simpa using hsp) (by simpa using plain_noNum h4') (h.base b r hr)
  have hst : Stp C.S w (w.setCells r p.length vs) := ⟨by
    have := (setCells_only vs p.length w (OnlyG.refl r w)).1
    omega, hS.lim, fun b' o hb' hs => hS.oth b' o (fun e => hs (by rw [e]; exact h.own b r hr)) hb'⟩
  refine ⟨hS.bel, by rw [put_defers]; exact h.defers, h.slots_size u _, ⟨h.slots_put hst (Ctx.le_refl _ _) (fun t hx => by rw [ht] at hx; cases hx), ?_⟩, ?_, ?_, h.own, ?_, h.base, h.sup⟩
  · intro b' D hD
    obtain ⟨hs, ⟨rfl, rfl, -⟩ | ⟨hbb, hD⟩⟩ := at_app hu hD
    · refine ⟨r, p ++ vs ++ s, js, hr, by rw [List.append_assoc (p ++ vs)]; exact hS.heap, V.rel_stp hc hst, fun v hv => ?_, fun hel => ?_, h6⟩
      · simp only [List.mem_append] at hv
        rcases hv with ((hv | hv) | hv) | hv
        · exact h4 v (by simp [hv])
        · exact hp v hv
        · exact h4 v (by simp [hv])
        · exact h4 v (by simp [hv])
      · have := h5 hel
        rw [List.length_append] at this ⊢
        rw [hlen]
        exact this
    · obtain ⟨r', ds, ls, k5, k6, k7, k8, k9⟩ := h.sees.box b' D hD
      exact ⟨r', ds, ls, k5, hS.oth r' _ (fun e => hbb (h.inj b b' r B D hB hD hr (by rw [← e]; exact k5)).symm) k6, V.rel_stp k7 hst, k8, k9⟩
  · intro b1 b2 x D D' hD hD' hr1 hr2
    have key : ∀ {b' D}, (st.app u).at b' = some D → ∃ D', st.at b' = some D' := fun {b' D} hD => by
      obtain ⟨-, ⟨rfl, -, -⟩ | ⟨-, hD⟩⟩ := at_app hu hD
      · exact ⟨B, hB⟩
      · exact ⟨D, hD⟩
    obtain ⟨E1, hE1⟩ := key hD
    obtain ⟨E2, hE2⟩ := key hD'
    exact h.inj b1 b2 x E1 E2 hE1 hE2 hr1 hr2
  · intro b' hB'
    rw [look_app, hu] at hB'
    dsimp only at hB'
    split at hB'
    · cases hB'
    · exact h.dom b' hB'
  · intro r' hr'
    have := (setCells_only vs p.length w (OnlyG.refl r w)).1
    have := h.lt r' hr'
    omega
end
end Go.Proofs.YtaaehcohmdojgaaGreatDoor

/-
  The evaluator's regions: in the text's order, and in whatever order their edges allow.
-/
namespace Go.Proofs.YtaaehcohmdojgaaGreatDoor
open Go.RowKit Go.Shelf

section
variable {E : Env} {S0 : Nat → Prop} {C : Ctx} {w wf : World} {st : St} {a : Act} {ops : Array Oper} {Q : Exit → Act → World → Prop}
theorem U.rel_flat {C C' : Ctx} {u : U} {cs : List Value} (h : u.rel C w cs) (hf : u.flat = true) : u.rel C' w cs := by
  cases u <;> first | exact h | cases hf
theorem V.rel_flat {C C' : Ctx} : ∀ {x : V} {cs : List Value}, x.rel C w cs → x.flat = true → x.rel C' w cs
  | [], _, h, _ => h
  | _ :: _, _, h, hf => by
    obtain ⟨c1, c2, h0, h1, h2⟩ := h
    simp only [V.flat, Bool.and_eq_true] at hf
    exact ⟨c1, c2, h0, U.rel_flat h1 hf.1, V.rel_flat h2 hf.2⟩
theorem V.all_flat {C C' : Ctx} : ∀ {l : List V} {vs : List Value}, V.hasAll C w l vs → l.all V.flat = true → V.hasAll C' w l vs
  | [], _, h, _ => h
  | _ :: _, _, h, hf => by
    obtain ⟨v, r, h0, ⟨cs, h1, h2⟩, h3⟩ := h
    simp only [List.all_cons, Bool.and_eq_true] at hf
    exact ⟨v, r, h0, ⟨cs, V.rel_flat h1 hf.1, h2⟩, V.all_flat h3 hf.2⟩
theorem T.rel_flat {C C' : Ctx} {t : T} {v : Value} (h : t.rel C w v) (hf : t.flat = true) : t.rel C' w v := by
  cases t with
  | one x => obtain ⟨cs, h1, h2⟩ := h; exact ⟨cs, V.rel_flat h1 hf, h2⟩
  | tup l => obtain ⟨vs, h1, h2⟩ := h; exact ⟨vs, h1, V.all_flat h2 hf⟩
theorem wanted_of {o : Oper} {b : Bool} (hs : Sees C w st a) (h : guardIs ops st o b) : Region.wanted o (yielded ops a.tmps) = b := by
  unfold guardIs at h
  unfold Region.wanted
  cases hg : o.guard with
  | none => rw [hg] at h; exact h.symm
  | some g =>
    obtain ⟨g, want⟩ := g
    rw [hg] at h
    obtain ⟨d, x, h1, h2, h3⟩ := h
    obtain ⟨v, h4, h5⟩ := hs.slot d _ h2
    have h6 := u_rel h5 rfl
    simp only [U.rel, List.cons.injEq, and_true] at h6
    subst h6
    subst h3
    cases v <;> simp [yielded, h1, h4]
theorem ev_step (hE : E.Ok) (hi : InvE S0 wf C st a w) {o : Oper} {u : Upd} (hv : Ev E ops o st u) {K : Act → World → Prop} (hK : ∀ C' a' w', InvE S0 wf C' (st.app u) a' w' → K a' w') :
    if Region.wanted o (yielded ops a.tmps) = true then Oper.wp E.P o a w K Q else K (a.put o.dst undef) w := by
  obtain ⟨hd, ⟨hg, hrb, e, he, hu⟩ | ⟨hg, h1, h2⟩⟩ := hv
  · rw [if_pos (wanted_of hi.sees hg)]
    have hdo := opEval_does hE.ty hi.sees hi.lt he
    unfold Oper.wp
    cases e with
    | val t =>
      obtain ⟨v, w', h1, h0, h2⟩ := hdo
      obtain ⟨h3, t', h4, h5⟩ := hu
      rw [h1, Oper.upon_value, ← hd]
      exact hK C _ _ (hi.value h0 h3 (fun t hx => by rw [h4] at hx; cases hx; exact h5 C w' v h2))
    | new B =>
      obtain ⟨r, c, cs, js, w', h1, h2⟩ := hdo
      obtain ⟨id, h4, h5, h6, h7⟩ := hu
      rw [h1, Oper.upon_value, ← hd]
      obtain ⟨C', hC⟩ := hi.new h4 h7 h5 h6 h2
      exact hK C' _ _ hC
    | put b off n x c =>
      obtain ⟨B, r, p, old, s, js, vs, h1, h2, h3, h4, h5, h6, h7, h8, h8'⟩ := hdo
      obtain ⟨h9, B', h10, h11⟩ := hu
      rw [(look_of_at h1).1] at h10
      cases h10
      rw [h8', Oper.upon_skip, ← hd, ← h4]
      exact hK C _ _ (hi.put h1 h2 h3 h5 h6 h7 h11 h9 h8)
    | call f args fz =>
      obtain ⟨vs, h1, h2⟩ := hdo
      obtain ⟨h3, con, t, t', h4, h5, hfl, h7, h8⟩ := hu
      have hc := hE.con f con h4
      rw [h1, hc.enter, Oper.upon_enter, ← hd]
      refine (hc.calls args t h5 (C.less fz) w vs (fun r hr => hi.lt r hr.1) h2).mono ?_
      rintro e w' ⟨v, rfl, hb, hr⟩
      have hr' : T.rel C w' t v := by
        rcases Bool.or_eq_true_iff.1 hfl with hz | hz
        · refine T.rel_le hr ⟨fun _ _ h => h, fun _ _ _ => rfl, fun b _ h => ⟨h, fun b' hb' => ?_⟩⟩
          rw [List.isEmpty_iff] at hz
          subst hz
          cases hb'
        · exact T.rel_flat hr hz
      exact hK C _ _ (hi.value hb h3 (fun t hx => by rw [h7] at hx; cases hx; exact h8 C w' v hr'))
  · rw [if_neg (by rw [wanted_of hi.sees hg]; simp), ← hd]
    exact hK C _ _ (hi.value (Bel.refl w) h2 (fun t hx => by rw [h1 t hx]; exact one_of rfl))
/-- The operations' makings, one behind the other. -/
def Path (E : Env) (all : Array Oper) : List Oper → St → List Upd → Prop
  | [], _, us => us = []
  | o :: os, st, us => ∃ u r, us = u :: r ∧ Ev E all o st u ∧ Path E all os (st.app u) r
theorem path_text (hE : E.Ok) : ∀ (os : List Oper) {C : Ctx} {st : St} {us : List Upd} {a : Act} {w : World}, Path E ops os st us → InvE S0 wf C st a w → (∀ C a w, InvE S0 wf C (us.foldl St.app st) a w → Q .normal a w) → wpList E.P ops Q os a w
  | [], C, st, us, a, w, hp, hi, hQ => by
    simp only [Path] at hp
    subst hp
    exact hQ C a w hi
  | o :: os, C, st, us, a, w, hp, hi, hQ => by
    obtain ⟨u, r, rfl, hv, hp'⟩ := hp
    have := ev_step (Q := Q) hE hi hv (K := wpList E.P ops Q os) (fun C' a' w' hi' => path_text hE os hp' hi' hQ)
    simp only [wpList]
    split
    · rename_i h; rw [if_pos h] at this; exact .inl this
    · rename_i h; rw [if_neg h] at this; exact this
/-! ### In any order -/
def mfold : St → List Upd → (Nat → Bool) → Nat → St
  | st, [], _, _ => st
  | st, u :: us, f, i => mfold (bif f i then st.app u else st) us f (i + 1)
theorem mfold_len : ∀ (us : List Upd) (st : St) (f : Nat → Bool) (i : Nat), (mfold st us f i).slots.length = st.slots.length
  | [], _, _, _ => rfl
  | u :: us, st, f, i => by
    rw [mfold, mfold_len us]
    cases f i <;> simp [app_len]
theorem mfold_slot : ∀ (us : List Upd) (st st' : St) (f g : Nat → Bool) (i t : Nat), st.slots.length = st'.slots.length → nth st.slots t = nth st'.slots t → (∀ k u, us[k]? = some u → u.dst = some t → f (i + k) = g (i + k)) →
    nth (mfold st us f i).slots t = nth (mfold st' us g i).slots t
  | [], _, _, _, _, _, _, _, h, _ => h
  | u :: us, st, st', f, g, i, t, hl, h, hd => by
    simp only [mfold]
    refine mfold_slot us _ _ f g (i + 1) t ?_ ?_ (fun k u' hk hu => by have := hd (k + 1) u' (by simpa using hk) hu; rwa [show i + (k + 1) = i + 1 + k by omega] at this)
    · cases f i <;> cases g i <;> simp [app_len, hl]
    · by_cases ht : u.dst = some t
      · have h0 := hd 0 u (by simp) ht
        rw [Nat.add_zero] at h0
        rw [h0]
        cases g i
        · exact h
        · simp only [cond_true, nth_app, hl, ht, if_true]
      · have hp : ∀ s : St, nth (s.app u).slots t = nth s.slots t := fun s => by rw [nth_app, if_neg ht]
        cases f i <;> cases g i <;> simp [hp, h]
def Upd.at (u : Upd) (b : Nat) : Prop := ∃ id B, u.box = some (id, B) ∧ (id = b ∨ B.src = some b)
def St.key (st : St) (b : Nat) : Option Box × Bool := (look st.boxes b, st.live b)
theorem key_app (st : St) (u : Upd) (b : Nat) : (st.app u).key b = match u.box with
    | some (b', B) => ((if b' = b then some B else look st.boxes b), (match B.src with | some s => !(s == b) | none => true) && st.live b)
    | none => st.key b := by
  unfold St.key
  rw [look_app, live_app]
  cases hu : u.box <;> rfl
theorem key_other (st : St) {u : Upd} {b : Nat} (h : ¬ u.at b) : (st.app u).key b = st.key b := by
  rw [key_app]
  cases hb : u.box with
  | none => rfl
  | some p =>
    obtain ⟨b', B⟩ := p
    dsimp only
    have h1 : b' ≠ b := fun e => h ⟨b', B, hb, .inl e⟩
    have h2 : B.src ≠ some b := fun e => h ⟨b', B, hb, .inr e⟩
    rw [if_neg h1]
    unfold St.key
    cases hs : B.src with
    | none => simp
    | some x =>
      have : (x == b) = false := by simp; intro e; exact h2 (by rw [hs, e])
      simp [this]
theorem key_congr {st st' : St} {b : Nat} (u : Upd) (h : st.key b = st'.key b) : (st.app u).key b = (st'.app u).key b := by
  rw [key_app, key_app]
  unfold St.key at h
  simp only [Prod.mk.injEq] at h
  cases hb : u.box with
  | none => unfold St.key; dsimp only; rw [h.1, h.2]
  | some p => dsimp only; rw [h.1, h.2]
theorem mfold_key : ∀ (us : List Upd) (st st' : St) (f g : Nat → Bool) (i b : Nat), st.key b = st'.key b → (∀ k u, us[k]? = some u → u.at b → f (i + k) = g (i + k)) →
    (mfold st us f i).key b = (mfold st' us g i).key b
  | [], _, _, _, _, _, _, h, _ => h
  | u :: us, st, st', f, g, i, b, h, hd => by
    simp only [mfold]
    refine mfold_key us _ _ f g (i + 1) b ?_ (fun k u' hk hu => by have := hd (k + 1) u' (by simpa using hk) hu; rwa [show i + (k + 1) = i + 1 + k by omega] at this)
    by_cases ht : u.at b
    · have h0 := hd 0 u (by simp) ht
      rw [Nat.add_zero] at h0
      rw [h0]
      cases g i
      · exact h
      · exact key_congr u h
    · cases f i <;> cases g i <;> simp [key_other _ ht, h]
/-- One more: the last one of those that touch the same. -/
theorem mfold_key_add : ∀ (us : List Upd) (st : St) (f g : Nat → Bool) (i j b : Nat) (u : Upd), us[j]? = some u → f (i + j) = false → g (i + j) = true → (∀ k, k ≠ j → f (i + k) = g (i + k)) → (∀ k u', j < k → us[k]? = some u' → u'.at b → f (i + k) = false) →
    ((mfold st us f i).app u).key b = (mfold st us g i).key b
  | [], _, _, _, _, _, _, _, h, _, _, _, _ => by simp at h
  | v :: us, st, f, g, i, 0, b, u, h, hf, hg, hfg, hl => by
    simp only [List.getElem?_cons_zero, Option.some.injEq] at h
    subst h
    rw [Nat.add_zero] at hf hg
    simp only [mfold, hf, hg, cond_false, cond_true]
    have hn : ∀ (us : List Upd) (st : St) (i : Nat), mfold st us (fun _ => false) i = st := fun us => by
      induction us with
      | nil => intro _ _; rfl
      | cons x xs ih => intro st i; simp only [mfold, cond_false]; exact ih st (i + 1)
    have h1 : (mfold st us f (i + 1)).key b = st.key b := by
      rw [mfold_key us st st f (fun _ => false) (i + 1) b rfl (fun k u' hk hu => by have := hl (k + 1) u' (by omega) (by simpa using hk) hu; rwa [show i + (k + 1) = i + 1 + k by omega] at this), hn]
    rw [key_congr v h1]
    rw [mfold_key us (st.app v) (st.app v) g (fun _ => false) (i + 1) b rfl (fun k u' hk hu => by
      have h2 := hl (k + 1) u' (by omega) (by simpa using hk) hu
      rw [hfg (k + 1) (by omega)] at h2
      rwa [show i + (k + 1) = i + 1 + k by omega] at h2), hn]
  | v :: us, st, f, g, i, j + 1, b, u, h, hf, hg, hfg, hl => by
    simp only [mfold]
    have h0 := hfg 0 (by omega)
    rw [Nat.add_zero] at h0
    rw [h0]
    exact mfold_key_add us _ f g (i + 1) j b u (by simpa using h) (by rw [show i + 1 + j = i + (j + 1) by omega]; exact hf) (by rw [show i + 1 + j = i + (j + 1) by omega]; exact hg)
      (fun k hk => by have := hfg (k + 1) (by omega); rwa [show i + (k + 1) = i + 1 + k by omega] at this) (fun k u' hk hku hu => by have := hl (k + 1) u' (by omega) (by simpa using hku) hu; rwa [show i + (k + 1) = i + 1 + k by omega] at this)
theorem mfold_slot_last : ∀ (us : List Upd) (st : St) (f : Nat → Bool) (i j t : Nat) (u : Upd), us[j]? = some u → u.dst = some t → f (i + j) = true → (∀ k u', j < k → us[k]? = some u' → u'.dst = some t → f (i + k) = false) →
    nth (mfold st us f i).slots t = if t < st.slots.length then some u.t else none
  | [], _, _, _, _, _, _, h, _, _, _ => by simp at h
  | v :: us, st, f, i, 0, t, u, h, hd, hf, hl => by
    simp only [List.getElem?_cons_zero, Option.some.injEq] at h
    subst h
    rw [Nat.add_zero] at hf
    simp only [mfold, hf, cond_true]
    rw [mfold_slot us (st.app v) (st.app v) f (fun _ => false) (i + 1) t rfl rfl (fun k u' hk hu => by have := hl (k + 1) u' (by omega) (by simpa using hk) hu; rwa [show i + (k + 1) = i + 1 + k by omega] at this)]
    have hn : ∀ (us : List Upd) (st : St) (i : Nat), mfold st us (fun _ => false) i = st := fun us => by
      induction us with
      | nil => intro _ _; rfl
      | cons x xs ih => intro st i; simp only [mfold, cond_false]; exact ih st (i + 1)
    rw [hn, nth_app, if_pos hd]
  | v :: us, st, f, i, j + 1, t, u, h, hd, hf, hl => by
    simp only [mfold]
    rw [mfold_slot_last us _ f (i + 1) j t u (by simpa using h) hd (by rw [show i + 1 + j = i + (j + 1) by omega]; exact hf) (fun k u' hk hku hu => by have := hl (k + 1) u' (by omega) (by simpa using hku) hu; rwa [show i + (k + 1) = i + 1 + k by omega] at this)]
    cases f i <;> simp [app_len]
theorem mfold_congr : ∀ (us : List Upd) (st : St) (f g : Nat → Bool) (i : Nat), (∀ k, k < us.length → f (i + k) = g (i + k)) → mfold st us f i = mfold st us g i
  | [], _, _, _, _, _ => rfl
  | u :: us, st, f, g, i, h => by
    have h0 := h 0 (by simp)
    rw [Nat.add_zero] at h0
    simp only [mfold, h0]
    exact mfold_congr us _ f g (i + 1) (fun k hk => by have := h (k + 1) (by simpa using hk); rwa [show i + (k + 1) = i + 1 + k by omega] at this)
theorem mfold_take : ∀ (us : List Upd) (st : St) (j i : Nat), (us.take j).foldl St.app st = mfold st us (fun k => decide (k < i + j)) i
  | [], _, _, _ => by simp [mfold]
  | u :: us, st, 0, i => by
    have hn : ∀ (us : List Upd) (st : St) (i : Nat), mfold st us (fun _ => false) i = st := fun us => by
      induction us with
      | nil => intro _ _; rfl
      | cons x xs ih => intro st i; simp only [mfold, cond_false]; exact ih st (i + 1)
    rw [mfold_congr (u :: us) st _ (fun _ => false) i (fun k _ => by simp), hn]
    rfl
  | u :: us, st, j + 1, i => by
    simp only [List.take_succ_cons, List.foldl_cons, mfold]
    rw [mfold_take us (st.app u) j (i + 1)]
    simp only [show i < i + (j + 1) by omega, decide_true, cond_true]
    exact mfold_congr us _ _ _ (i + 1) (fun k _ => by simp only [decide_eq_decide]; omega)
theorem path_at {all : Array Oper} : ∀ (os : List Oper) (st : St) (us : List Upd), Path E all os st us → us.length = os.length ∧ ∀ j o u, os[j]? = some o → us[j]? = some u → Ev E all o ((us.take j).foldl St.app st) u
  | [], st, us, h => by
    simp only [Path] at h
    subst h
    exact ⟨rfl, fun j o u hj => by simp at hj⟩
  | o :: os, st, us, h => by
    obtain ⟨u, r, rfl, h1, h2⟩ := h
    obtain ⟨h3, h4⟩ := path_at os (st.app u) r h2
    refine ⟨by simp [h3], fun j o' u' hj hu => ?_⟩
    cases j with
    | zero =>
      simp only [List.getElem?_cons_zero, Option.some.injEq] at hj hu
      subst hj hu
      exact h1
    | succ j => exact h4 j o' u' (by simpa using hj) (by simpa using hu)
end
end Go.Proofs.YtaaehcohmdojgaaGreatDoor

/-
  The evaluator's regions that draw their order.
-/
namespace Go.Proofs.YtaaehcohmdojgaaGreatDoor
open Go.RowKit Go.Shelf

section
variable {E : Env} {S0 : Nat → Prop} {C : Ctx} {w wf : World} {st st' : St} {a : Act} {ops : Array Oper} {Q : Exit → Act → World → Prop} {us : List Upd}
theorem look_of_key {b : Nat} (h : st.key b = st'.key b) : look st.boxes b = look st'.boxes b := congrArg (·.1) h
theorem live_of_key {b : Nat} (h : st.key b = st'.key b) : st.live b = st'.live b := congrArg (·.2) h
theorem at_of_key {b : Nat} (h : st.key b = st'.key b) : st.at b = st'.at b := by
  unfold St.at
  rw [look_of_key h, live_of_key h]
theorem InvE.congr (h : InvE S0 wf C st a w) (hl : st.slots.length = st'.slots.length) (hs : ∀ t, nth st.slots t = nth st'.slots t) (hb : ∀ b, st.key b = st'.key b) : InvE S0 wf C st' a w where
  bel := h.bel
  defers := h.defers
  size := by rw [← hl]; exact h.size
  sees := ⟨fun t x hx => h.sees.slot t x (by rw [hs]; exact hx), fun b B hB => h.sees.box b B (by rw [at_of_key (hb b)]; exact hB)⟩
  inj := fun b b' r B B' hB hB' => h.inj b b' r B B' (by rw [at_of_key (hb b)]; exact hB) (by rw [at_of_key (hb b')]; exact hB')
  dom := fun b hB => h.dom b (by rw [look_of_key (hb b)]; exact hB)
  own := h.own
  lt := h.lt
  base := h.base
  sup := h.sup
theorem opd_congr {o : Oper} (h : ∀ t ∈ o.looksAt ops, nth st.slots t = nth st'.slots t) : ∀ x ∈ o.op.operands.toList, st.opd x = st'.opd x := by
  intro x hx
  cases x with
  | tmp t =>
    have := h t (List.mem_append_left _ (List.mem_filterMap.2 ⟨.tmp t, hx, rfl⟩))
    simp only [St.opd, this]
  | _ => rfl
theorem frzs_congr {ex : Bool} : ∀ {os : List (Option T)} {vs : List V}, ones os = some vs → (∀ b ∈ ownsOf os, st.at b = st'.at b) → frzs st ex vs = frzs st' ex vs
  | [], vs, h, _ => by
    simp only [ones, Option.some.injEq] at h
    subst h
    rfl
  | none :: _, vs, h, _ => by simp [ones] at h
  | some (.tup _) :: _, vs, h, _ => by simp [ones] at h
  | some (.one v) :: r, vs, h, hb => by
    simp only [ones] at h
    cases hr : ones r with
    | none => rw [hr] at h; cases h
    | some ws =>
      rw [hr] at h
      simp only [Option.map_some, Option.some.injEq] at h
      subst h
      have hb' : ∀ b ∈ ownsOf r, st.at b = st'.at b := fun b hm => hb b (by
        unfold ownsOf
        split
        · rename_i he; cases he
        · rename_i he; cases he; exact List.mem_cons_of_mem _ hm
        · rename_i he; cases he; exact hm)
      have ih := frzs_congr (ex := ex) hr hb'
      have gen : (frzs st ex ws).map (fun p : List V × List Nat => (v :: p.1, p.2)) = (frzs st' ex ws).map (fun p : List V × List Nat => (v :: p.1, p.2)) := by rw [ih]
      match v, hb, gen with
      | [.own b n], hb, _ =>
        have := hb b (by simp [ownsOf])
        simp only [frzs, this, ih]
      | [], _, gen => exact gen
      | u :: _ :: _, _, gen => cases u <;> exact gen
      | [.lit _], _, gen => exact gen
      | [.sym _], _, gen => exact gen
      | [.nat _ _], _, gen => exact gen
      | [.zed _ _], _, gen => exact gen
      | [.rat _ _], _, gen => exact gen
      | [.rd _ _], _, gen => exact gen
      | [.raw _ _ _ _ _], _, gen => exact gen
      | [.ptr _ _], _, gen => exact gen
      | [.li _ _], _, gen => exact gen
      | [.inp _ _ _ _ _ _], _, gen => exact gen
      | [.ni _ _], _, gen => exact gen
      | [.rn _ _], _, gen => exact gen
      | [.rz _ _], _, gen => exact gen
      | [.rq _ _], _, gen => exact gen
      | [.sl _ _ _], _, gen => exact gen
      | [.fr _ _ _ _ _], _, gen => exact gen
      | [.fpt _ _ _ _], _, gen => exact gen
      | [.any], _, gen => exact gen
theorem eval_congrE {op : Op} (h : ∀ x ∈ op.operands.toList, st.opd x = st'.opd x) (hb : ∀ b ∈ boxesOf st op, st.at b = st'.at b) : opEval E st op = opEval E st' op := by
  cases op with
  | move x => simp only [opEval, h x (by simp [Op.operands])]
  | assign x => simp only [opEval, h x (by simp [Op.operands])]
  | pick c x y => simp only [opEval, h c (by simp [Op.operands]), h x (by simp [Op.operands]), h y (by simp [Op.operands])]
  | alloc t => rfl
  | box t x => simp only [opEval, h x (by simp [Op.operands])]
  | build t parts =>
    have e : parts.toList.map (fun p => (p.1, st.opd p.2)) = parts.toList.map (fun p => (p.1, st'.opd p.2)) := List.map_congr_left fun p hp => by
      rw [h p.2 (by simp only [Op.operands]; exact List.mem_map.2 ⟨p, hp, rfl⟩)]
    simp only [opEval, e]
  | buildSlice t n parts =>
    have e : parts.toList.map (fun p => (p.1, st.opd p.2)) = parts.toList.map (fun p => (p.1, st'.opd p.2)) := List.map_congr_left fun p hp => by
      rw [h p.2 (by simp only [Op.operands]; exact List.mem_map.2 ⟨p, hp, rfl⟩)]
    simp only [opEval, e]
  | load t x =>
    have e := h x (by simp [Op.operands])
    simp only [opEval, e]
    split
    · rename_i b o y hx hy
      rw [hb b (by simp only [boxesOf, e, hx]; simp)]
    · rfl
    · rfl
  | store t x y =>
    have e := h x (by simp [Op.operands])
    have e2 := h y (by simp [Op.operands])
    simp only [opEval, e, e2]
    split
    · rename_i b o v z hx hv hz
      rw [hb b (by simp only [boxesOf, e, hx]; simp)]
    · rfl
  | binOp op t x y yt => simp only [opEval, h x (by simp [Op.operands]), h y (by simp [Op.operands])]
  | unOp op t x => simp only [opEval, h x (by simp [Op.operands])]
  | convert s d x => simp only [opEval, h x (by simp [Op.operands])]
  | fieldAddr t x f => simp only [opEval, h x (by simp [Op.operands])]
  | field t x f => simp only [opEval, h x (by simp [Op.operands])]
  | indexAddr t x i => simp only [opEval, h x (by simp [Op.operands]), h i (by simp [Op.operands])]
  | index t x i => simp only [opEval, h x (by simp [Op.operands]), h i (by simp [Op.operands])]
  | extract x i => simp only [opEval, h x (by simp [Op.operands])]
  | call c =>
    have e : c.args.toList.map st.opd = c.args.toList.map st'.opd := List.map_congr_left fun x hx => h x (by simp only [Op.operands, Call.operands, Array.toList_append]; exact List.mem_append_right _ hx)
    simp only [opEval, ← e]
    split
    · rename_i f hc
      rw [h f (by simp [Op.operands, Call.operands, hc])]
      split
      · rename_i g first caps vs hf hv
        rw [frzs_congr hv (fun b hm => hb b (by simp only [boxesOf, hc]; exact hm))]
      · rfl
    · rename_i hc
      split
      · rename_i u v t t' hu ht
        have hm : ∀ b ∈ ownsOf (c.args.toList.map st.opd), st.at b = st'.at b := fun b hm => hb b (by simp only [boxesOf, hc]; exact hm)
        rw [hu] at hm
        have hnw : ∀ e sz, newsOf st e sz v = newsOf st' e sz v := fun e sz => by
          cases v <;> first | rfl | skip
          rename_i b n
          have : st.at b = st'.at b := hm b (by cases u <;> simp [ownsOf])
          simp only [newsOf, this]
        have hro : ∀ e sz, rowOf st e sz u = rowOf st' e sz u := fun e sz => by
          cases u <;> first | rfl | skip
          rename_i b n
          have : st.at b = st'.at b := hm b (by simp [ownsOf])
          simp only [rowOf, this]
        simp only [hnw, hro]
      · rfl
    · rfl
    · rfl
  | _ => rfl
theorem boxes_congr {op : Op} (h : ∀ x ∈ op.operands.toList, st.opd x = st'.opd x) : boxesOf st op = boxesOf st' op := by
  cases op <;> first | rfl | skip
  · rename_i t x; simp only [boxesOf, h x (by simp [Op.operands])]
  · rename_i t x y; simp only [boxesOf, h x (by simp [Op.operands])]
  · rename_i c
    have e : c.args.toList.map st.opd = c.args.toList.map st'.opd := List.map_congr_left fun x hx => h x (by simp only [Op.operands, Call.operands, Array.toList_append]; exact List.mem_append_right _ hx)
    simp only [boxesOf, e]
theorem Ev.congr {o : Oper} {u : Upd} (h : Ev E ops o st u) (hs : ∀ t ∈ o.looksAt ops, nth st.slots t = nth st'.slots t) (hr : ∀ b ∈ u.rb, st.key b = st'.key b) (hb : ∀ b, u.at b → st.key b = st'.key b) : Ev E ops o st' u := by
  have hg : ∀ b, guardIs ops st o b → guardIs ops st' o b := fun b hg => by
    unfold guardIs at hg ⊢
    cases hgd : o.guard with
    | none => rw [hgd] at hg; exact hg
    | some g =>
      obtain ⟨g, want⟩ := g
      rw [hgd] at hg
      obtain ⟨d, c, h1, h2, h3⟩ := hg
      exact ⟨d, c, h1, by rw [← hs d (by simp [Oper.looksAt, hgd, h1])]; exact h2, h3⟩
  have ho := opd_congr hs
  obtain ⟨hd, ⟨h1, h2, e, h3, hu⟩ | ⟨h1, h2, h3⟩⟩ := h
  · refine ⟨hd, .inl ⟨hg _ h1, by rw [h2, boxes_congr ho], e, ?_, ?_⟩⟩
    · rw [← eval_congrE ho (fun b hb' => at_of_key (hr b (by rw [h2]; exact hb')))]
      exact h3
    · cases e with
      | val t => exact hu
      | new B =>
        obtain ⟨id, h4, h5, h6, h7⟩ := hu
        have hk := hb id ⟨id, B, h4, .inl rfl⟩
        exact ⟨id, h4, by rw [← look_of_key hk]; exact h5, by rw [← live_of_key hk]; exact h6, h7⟩
      | put b off n x c =>
        obtain ⟨h4, B, h5, h6⟩ := hu
        exact ⟨h4, B, by rw [← look_of_key (hb b ⟨b, _, h6, .inl rfl⟩)]; exact h5, h6⟩
      | call f args fz => exact hu
  · exact ⟨hd, .inr ⟨hg _ h1, h2, h3⟩⟩
/-- The boxes that an operation makes, writes, goes on. -/
def Upd.touch (u : Upd) : List Nat := match u.box with
  | some (b, B) => b :: (match B.src with | some s => [s] | none => [])
  | none => []
theorem touch_of {u : Upd} {b : Nat} (h : u.at b) : b ∈ u.touch := by
  obtain ⟨id, B, hb, h⟩ := h
  unfold Upd.touch
  rw [hb]
  rcases h with rfl | h
  · simp
  · simp [h]
def updAt (us : List Upd) (i : Nat) (p : Upd → Bool) : Bool := match nth us i with | some u => p u | none => false
def hits (ops : Array Oper) (ui uj : Upd) (oj : Oper) : Bool :=
  (match ui.dst with | some d => (oj.looksAt ops).contains d || uj.dst == some d | none => false) ||
  ui.touch.any fun b => uj.rb.contains b || uj.touch.contains b
/-- Operations that touch the same wait for each other. -/
def confB (ops : Array Oper) (us : List Upd) : Bool :=
  (List.range ops.size).all fun j => opAt ops j fun oj => (oj.after.all fun e => !Region.binds .any e || e.on.blt j) && updAt us j fun uj => (match uj.dst with | some d => !(oj.looksAt ops).contains d | none => true) &&
    (List.range ops.size).all fun i => i == j || updAt us i fun ui => opAt ops i fun oi => !hits ops ui uj oj || (bif i.blt j then reachF .any ops i 8 oj else reachF .any ops j 8 oi)
structure Conf (ops : Array Oper) (us : List Upd) : Prop where
  back : ∀ (j : Nat) (o : Oper), ops[j]? = some o → ∀ e ∈ o.after, Region.binds .any e = true → e.on < j
  self : ∀ (j : Nat) (o : Oper) (u : Upd) (d : Tmp), ops[j]? = some o → us[j]? = some u → u.dst = some d → d ∉ o.looksAt ops
  apart : ∀ (i j : Nat) (oi oj : Oper) (ui uj : Upd), ops[i]? = some oi → ops[j]? = some oj → us[i]? = some ui → us[j]? = some uj → i ≠ j → hits ops ui uj oj = true → (i < j → reachF .any ops i 8 oj = true) ∧ (j < i → reachF .any ops j 8 oi = true)
theorem updAt_of {i : Nat} {p : Upd → Bool} (h : updAt us i p = true) : ∃ u, us[i]? = some u ∧ p u = true := by
  unfold updAt at h
  rw [nth_eq] at h
  cases ho : us[i]? with
  | none => rw [ho] at h; cases h
  | some o => rw [ho] at h; exact ⟨o, rfl, h⟩
theorem conf_of (h : confB ops us = true) (hn : us.length = ops.size) : Conf ops us := by
  have hall : ∀ (j : Nat) (o : Oper), ops[j]? = some o → j < ops.size := fun j o ho => (Array.getElem?_eq_some_iff.1 ho).1
  have g : ∀ (j : Nat) (o : Oper) (u : Upd), ops[j]? = some o → us[j]? = some u → (o.after.all fun e => !Region.binds .any e || e.on.blt j) = true ∧ (match u.dst with | some d => !(o.looksAt ops).contains d | none => true) = true ∧
      (List.range ops.size).all (fun i => i == j || updAt us i fun ui => opAt ops i fun oi => !hits ops ui u o || (bif i.blt j then reachF .any ops i 8 o else reachF .any ops j 8 oi)) = true := fun j o u ho hu => by
    have h1 := List.all_eq_true.1 h j (List.mem_range.2 (hall j o ho))
    obtain ⟨o', ho', hp⟩ := opAt_of h1
    rw [ho] at ho'
    cases ho'
    simp only [Bool.and_eq_true] at hp
    obtain ⟨u', hu', hq⟩ := updAt_of hp.2
    rw [hu] at hu'
    cases hu'
    simp only [Bool.and_eq_true] at hq
    exact ⟨hp.1, hq.1, hq.2⟩
  have hu : ∀ (j : Nat) (o : Oper), ops[j]? = some o → ∃ u, us[j]? = some u := fun j o ho => ⟨_, List.getElem?_eq_getElem (by rw [hn]; exact hall j o ho)⟩
  refine ⟨fun j o ho e he hb => ?_, fun j o u d ho hu' hd hc => ?_, fun i j oi oj ui uj hi hj hui huj hne hh => ?_⟩
  · obtain ⟨u, hu'⟩ := hu j o ho
    have := Array.all_eq_true_iff_forall_mem.1 (g j o u ho hu').1 e he
    simp only [Bool.or_eq_true, Bool.not_eq_true'] at this
    rcases this with this | this
    · rw [hb] at this; cases this
    · exact Nat.ble_eq.mp this
  · have := (g j o u ho hu').2.1
    rw [hd] at this
    simp only [Bool.not_eq_true', List.contains_eq_mem, decide_eq_false_iff_not] at this
    exact this hc
  · have := List.all_eq_true.1 (g j oj uj hj huj).2.2 i (List.mem_range.2 (hall i oi hi))
    simp only [Bool.or_eq_true, beq_iff_eq, updAt, nth_eq, hui, opAt, hi, hh, Bool.not_true, Bool.false_eq_true, false_or] at this
    have h2 := this.resolve_left hne
    constructor
    · intro hlt
      have : i.blt j = true := Nat.ble_eq.mpr hlt
      rw [this] at h2
      exact h2
    · intro hlt
      have : i.blt j = false := by
        cases hb : i.blt j
        · rfl
        · have := Nat.ble_eq.mp hb; omega
      rw [this] at h2
      exact h2
theorem path_any (hE : E.Ok) (hp : Path E ops ops.toList st us) (hc : confB ops us = true) (hQ : ∀ C a w, InvE S0 wf C (us.foldl St.app st) a w → Q .normal a w) :
    ∀ (c : Nat) (listed : Array Bool) (a : Act) (w : World) (C : Ctx), cnt (fun i => listed.getD i false) ops.size = c → listed.size = ops.size → Shut .any ops listed → InvE S0 wf C (mfold st us (fun i => listed.getD i false) 0) a w → wpAny E.P .any ops Q c listed a w := by
  obtain ⟨hn, hev⟩ := path_at _ _ _ hp
  have hn' : us.length = ops.size := by rw [hn]; simp
  have hF := conf_of hc hn'
  intro c
  induction c with
  | zero =>
    intro listed a w C hcz hsz hsh hi
    have hall := cnt_zero hcz
    refine ⟨?_, ?_⟩
    · rw [List.eq_nil_iff_forall_not_mem]
      intro j hj
      obtain ⟨hjun, o, ho, -⟩ := mem_ready.1 hj
      have hlt := (Array.getElem?_eq_some_iff.1 ho).1
      have h1 := hall j hlt
      have : j < listed.size := by omega
      simp [this] at hjun h1
      rw [h1] at hjun
      cases hjun
    · refine hQ C a w ?_
      have e : us.foldl St.app st = mfold st us (fun i => listed.getD i false) 0 := by
        have := mfold_take us st us.length 0
        rw [List.take_length] at this
        rw [this]
        exact mfold_congr us st _ _ 0 (fun k hk => by simp only [Nat.zero_add]; rw [hall k (by omega)]; simpa using hk)
      rw [e]
      exact hi
  | succ c ih =>
    intro listed a w C hcz hsz hsh hi
    obtain ⟨i0, hi0, hun, hlow⟩ := cnt_pos (f := fun i => listed.getD i false) (n := ops.size) (by omega)
    have untrue : ∀ {i : Nat}, i < ops.size → listed.getD i false = false → listed.getD i true = false := fun {i} hi h => by
      have : i < listed.size := by omega
      simp [this] at h ⊢
      exact h
    have hready : i0 ∈ Region.ready .any ops listed := by
      obtain ⟨o, ho⟩ : ∃ o, ops[i0]? = some o := ⟨_, Array.getElem?_eq_getElem hi0⟩
      exact mem_ready.2 ⟨untrue hi0 hun, o, ho, fun e he hb => hlow e.on (hF.back i0 o ho e he hb)⟩
    refine ⟨fun h => (by rw [h] at hready; cases hready), fun j hj => ?_⟩
    obtain ⟨hjun, oj, hoj, hall⟩ := mem_ready.1 hj
    have hjn : j < ops.size := (Array.getElem?_eq_some_iff.1 hoj).1
    have hjun' : listed.getD j false = false := by
      have : j < listed.size := by omega
      simp [this] at hjun ⊢
      exact hjun
    obtain ⟨uj, huj⟩ : ∃ u, us[j]? = some u := ⟨_, List.getElem?_eq_getElem (by omega)⟩
    have hop : ∀ k u, us[k]? = some u → ∃ o, ops[k]? = some o := fun k u hu => ⟨_, Array.getElem?_eq_getElem (by have := (List.getElem?_eq_some_iff.1 hu).1; omega)⟩
    -- what touches the same as j has been listed just if it stands ahead
    have hset : ∀ k u, us[k]? = some u → k ≠ j → hits ops u uj oj = true → listed.getD k false = decide (k < j) := fun k u hu hne hh => by
      obtain ⟨o, ho⟩ := hop k u hu
      obtain ⟨h1, h2⟩ := hF.apart k j o oj u uj ho hoj hu huj hne hh
      by_cases hlt : k < j
      · rw [decide_eq_true hlt]
        exact reachF_listed hsh 8 oj hall (h1 hlt)
      · rw [decide_eq_false hlt]
        cases hk : listed.getD k false
        · rfl
        · have h3 := reachF_listed hsh 8 o (hsh k o ho hk) (h2 (by omega))
          rw [hjun'] at h3
          cases h3
    have hat : ∀ (u : Upd) b, u.at b → (b ∈ uj.rb ∨ uj.at b) → hits ops u uj oj = true := fun u b hu hr => by
      unfold hits
      refine Bool.or_eq_true_iff.2 (.inr (List.any_eq_true.2 ⟨b, touch_of hu, ?_⟩))
      simp only [Bool.or_eq_true, List.contains_eq_mem, decide_eq_true_eq]
      exact hr.imp id touch_of
    have hdst : ∀ (u : Upd) t, u.dst = some t → (t ∈ oj.looksAt ops ∨ uj.dst = some t) → hits ops u uj oj = true := fun u t hu hr => by
      unfold hits
      simp only [hu, Bool.or_eq_true, beq_iff_eq, List.contains_eq_mem, decide_eq_true_eq]
      exact .inl hr
    have hstj : (us.take j).foldl St.app st = mfold st us (fun k => decide (k < j)) 0 := by rw [mfold_take us st j 0]; simp only [Nat.zero_add]
    have hevj := hev j oj uj (by simpa using hoj) huj
    rw [hstj] at hevj
    have hevm : Ev E ops oj (mfold st us (fun i => listed.getD i false) 0) uj := by
      refine hevj.congr (fun t ht => ?_) (fun b hb => ?_) (fun b hb => ?_)
      · refine mfold_slot us st st _ _ 0 t rfl rfl (fun k u hu hd => ?_)
        rw [Nat.zero_add]
        have hne : k ≠ j := fun e => by
          subst e
          rw [huj] at hu
          cases hu
          exact hF.self k oj uj t hoj huj hd ht
        exact (hset k u hu hne (hdst u t hd (.inl ht))).symm
      · refine mfold_key us st st _ _ 0 b rfl (fun k u hu hd => ?_)
        rw [Nat.zero_add]
        by_cases hne : k = j
        · subst hne; simp only [Nat.lt_irrefl, decide_false]; exact hjun'.symm
        · exact (hset k u hu hne (hat u b hd (.inl hb))).symm
      · refine mfold_key us st st _ _ 0 b rfl (fun k u hu hd => ?_)
        rw [Nat.zero_add]
        by_cases hne : k = j
        · subst hne; simp only [Nat.lt_irrefl, decide_false]; exact hjun'.symm
        · exact (hset k u hu hne (hat u b hd (.inr hb))).symm
    have hnew : ∀ k, (listed.setIfInBounds j true).getD k false = if k = j then true else listed.getD k false := fun k => by
      by_cases hk : k = j
      · subst hk
        have : k < listed.size := by omega
        simp [this]
      · rw [if_neg hk, getD_set_ne false (Ne.symm hk)]
    have hcn : cnt (fun i => (listed.setIfInBounds j true).getD i false) ops.size = c := by
      have := (cnt_set (f := fun i => listed.getD i false) (g := fun i => (listed.setIfInBounds j true).getD i false) (j := j) hjun' (by simp [hnew]) (fun k hk => by simp [hnew, hk]) (n := ops.size)).2 hjn
      omega
    have hstep := ev_step (Q := Q) hE hi hevm (K := wpAny E.P .any ops Q c (listed.setIfInBounds j true)) (fun C' a' w' hi' => by
      refine ih _ a' w' C' hcn (by rw [Array.size_setIfInBounds]; exact hsz) (hsh.add hj) ?_
      refine hi'.congr (by rw [app_len, mfold_len, mfold_len]) (fun t => ?_) (fun b => ?_)
      · rw [nth_app]
        by_cases hd : uj.dst = some t
        · rw [if_pos hd, mfold_len]
          refine (mfold_slot_last us st _ 0 j t uj huj hd (by rw [Nat.zero_add, hnew, if_pos rfl]) (fun k u hk hu hd' => ?_)).symm
          rw [Nat.zero_add, hnew, if_neg (by omega), hset k u hu (by omega) (hdst u t hd' (.inr hd))]
          exact decide_eq_false (by omega)
        · rw [if_neg hd]
          refine mfold_slot us st st _ _ 0 t rfl rfl (fun k u hu hd' => ?_)
          rw [Nat.zero_add, hnew, if_neg (fun e => by subst e; rw [huj] at hu; cases hu; exact hd hd')]
      · by_cases hd : uj.at b
        · refine mfold_key_add us st _ _ 0 j b uj huj (by rw [Nat.zero_add]; exact hjun') (by rw [Nat.zero_add, hnew, if_pos rfl]) (fun k hk => by rw [Nat.zero_add, hnew, if_neg hk]) (fun k u hk hu hd' => ?_)
          rw [Nat.zero_add, hset k u hu (by omega) (hat u b hd' (.inr hd))]
          exact decide_eq_false (by omega)
        · rw [key_other _ hd]
          refine mfold_key us st st _ _ 0 b rfl (fun k u hu hd' => ?_)
          rw [Nat.zero_add, hnew, if_neg (fun e => by subst e; rw [huj] at hu; cases hu; exact hd hd')])
    unfold wpOp
    rw [hoj]
    dsimp only
    split
    · rename_i hw; rw [if_pos hw] at hstep; exact .inl hstep
    · rename_i hw; rw [if_neg hw] at hstep; exact hstep
end
end Go.Proofs.YtaaehcohmdojgaaGreatDoor
