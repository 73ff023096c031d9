/-
  The evaluator: code, functions; what it tells holds of the machine.
-/
import Derived.Test.YtaaehcohmdojgaaGreatDoorZaw
import Derived.Scope
import Derived.LoopN
namespace Go.Proofs.YtaaehcohmdojgaaGreatDoor
open Go.RowKit Go.Shelf

def Out.bind {α β : Type} : Out α → (α → Out β) → Out β
  | .fail, _ => .fail
  | .leaf x, f => f x
  | .need p k, f => .need p (k.bind f)
  | .chk b k, f => .chk b (k.bind f)
  | .br b x y, f => .br b (x.bind f) (y.bind f)
def Out.holds {α : Type} (Q : α → Prop) : Out α → Prop
  | .fail => False
  | .leaf x => Q x
  | .need p k => p ∧ k.holds Q
  | .chk b k => b = true ∧ k.holds Q
  | .br b x y => (b = true → x.holds Q) ∧ (b = false → y.holds Q)
theorem holds_gets {α : Type} {Q : α → Prop} : ∀ {o : Out α}, o.holds Q → ∃ x, o.gets x ∧ Q x
  | .fail, h => h.elim
  | .leaf x, h => ⟨x, rfl, h⟩
  | .need p k, h => by obtain ⟨x, h1, h2⟩ := holds_gets h.2; exact ⟨x, ⟨h.1, h1⟩, h2⟩
  | .chk b k, h => by obtain ⟨x, h1, h2⟩ := holds_gets h.2; exact ⟨x, ⟨h.1, h1⟩, h2⟩
  | .br true k l, h => by obtain ⟨x, h1, h2⟩ := holds_gets (h.1 rfl); exact ⟨x, .inl ⟨rfl, h1⟩, h2⟩
  | .br false k l, h => by obtain ⟨x, h1, h2⟩ := holds_gets (h.2 rfl); exact ⟨x, .inr ⟨rfl, h1⟩, h2⟩
theorem gets_bind {α β : Type} {f : α → Out β} {y : β} : ∀ {o : Out α}, (o.bind f).gets y → ∃ x, o.gets x ∧ (f x).gets y
  | .fail, h => h.elim
  | .leaf x, h => ⟨x, rfl, h⟩
  | .need p k, h => by obtain ⟨x, h1, h2⟩ := gets_bind h.2; exact ⟨x, ⟨h.1, h1⟩, h2⟩
  | .chk b k, h => by obtain ⟨x, h1, h2⟩ := gets_bind h.2; exact ⟨x, ⟨h.1, h1⟩, h2⟩
  | .br b k l, h => by
    rcases h with ⟨hb, h⟩ | ⟨hb, h⟩
    · obtain ⟨x, h1, h2⟩ := gets_bind h; exact ⟨x, .inl ⟨hb, h1⟩, h2⟩
    · obtain ⟨x, h1, h2⟩ := gets_bind h; exact ⟨x, .inr ⟨hb, h1⟩, h2⟩
/-- Bounds that are numerals are looked at, and gone. -/
def Out.clean {α : Type} : Out α → Out α
  | .chk true k => k.clean
  | .chk false _ => .fail
  | .need p k => .need p k.clean
  | .br b x y => .br b x.clean y.clean
  | .leaf x => .leaf x
  | .fail => .fail
theorem clean_gets {α : Type} {x : α} : ∀ {o : Out α}, o.clean.gets x → o.gets x
  | .chk true k, h => ⟨rfl, clean_gets (o := k) h⟩
  | .chk false _, h => h.elim
  | .need _ _, h => ⟨h.1, clean_gets h.2⟩
  | .br _ _ _, h => h.imp (fun h => ⟨h.1, clean_gets h.2⟩) (fun h => ⟨h.1, clean_gets h.2⟩)
  | .leaf _, h => h
  | .fail, h => h
/-- Where nothing is open: all tests are made. -/
def Out.run {α : Type} : Out α → Option α
  | .chk true k => k.run
  | .br true x _ => x.run
  | .br false _ y => y.run
  | .leaf x => some x
  | _ => none
theorem run_gets {α : Type} {x : α} : ∀ {o : Out α}, o.run = some x → o.gets x
  | .chk true k, h => ⟨rfl, run_gets (o := k) h⟩
  | .br true k _, h => .inl ⟨rfl, run_gets (o := k) h⟩
  | .br false _ l, h => .inr ⟨rfl, run_gets (o := l) h⟩
  | .leaf _, h => Option.some.inj h
  | .chk false _, h => by simp [Out.run] at h
  | .need _ _, h => by simp [Out.run] at h
  | .fail, h => by simp [Out.run] at h
def keysOf (ops : Array Oper) : List Nat := ops.toList.flatMap fun o => (match o.guard with | some (g, _) => ((ops[g]?).bind (·.dst)).toList | none => []) ++ (match o.op with | .pick (.tmp t) _ _ => [t] | _ => [])
def guardV (all : Array Oper) (st : St) (o : Oper) : Option Bool := match o.guard with
  | none => some true
  | some (g, want) => match (all[g]?).bind (·.dst) with
    | some d => match nth st.slots d with
      | some (some (.one [.lit v])) => some (match v with | .bool c => c == want | _ => false)
      | _ => none
    | none => none
def mkUpd (E : Env) (st : St) (o : Oper) : Eff → Out Upd
  | .val t => .leaf ⟨o.dst, some t, boxesOf st o.op, none, false⟩
  | .new B => match look st.boxes st.next, st.live st.next with
    | none, true => .leaf ⟨o.dst, some (.one [newU st.next B]), boxesOf st o.op, some (st.next, B), true⟩
    | _, _ => .fail
  | .put b _ _ _ c => match look st.boxes b with
    | some B => .leaf ⟨o.dst, none, boxesOf st o.op, some (b, ⟨B.ty, c, B.el, B.src, B.full⟩), false⟩
    | none => .fail
  | .call f args fz => match look E.con f with
    | some con => (con args).bind fun t => bif fz.isEmpty || T.flat t then .leaf ⟨o.dst, some t, boxesOf st o.op, none, false⟩ else .fail
    | none => .fail
def Upd.key (keys : List Nat) (u : Upd) : Out Upd := match u.dst, u.t with
  | some d, some (.one [.sym (.bool b)]) => bif memN keys d then .br b (.leaf { u with t := some (.one [.lit (.bool true)]) }) (.leaf { u with t := some (.one [.lit (.bool false)]) }) else .leaf u
  | _, _ => .leaf u
def evOp (E : Env) (keys : List Nat) (all : Array Oper) (st : St) (o : Oper) : Out Upd := match guardV all st o with
  | some true => match opEval E st o.op with
    | some e => (mkUpd E st o e).bind (Upd.key keys)
    | none => .fail
  | some false => .leaf ⟨o.dst, some (.one [.lit undef]), [], none, false⟩
  | none => .fail
def exOps (E : Env) (keys : List Nat) (all : Array Oper) : List Oper → St → Out (List Upd × St)
  | [], st => .leaf ([], st)
  | o :: os, st => (evOp E keys all st o).bind fun u => (exOps E keys all os (st.app u)).bind fun r => .leaf (u :: r.1, r.2)
inductive Ex where
  | normal
  | exit (id : Nat)
  | ret
def Ex.is : Ex → Exit
  | .normal => .normal
  | .exit id => .exit id
  | .ret => .ret
def exLoop (f : St → Out (Ex × St)) : Nat → St → Out (Ex × St)
  | 0, _ => .fail
  | n + 1, st => (f st).bind fun r => match r.1 with
    | .normal => exLoop f n r.2
    | e => .leaf (e, r.2)
def exC (E : Env) : Code → St → Out (Ex × St)
  | .skip, st => .leaf (.normal, st)
  | .label _, st => .leaf (.normal, st)
  | .exit id, st => .leaf (.exit id, st)
  | .ret, st => .leaf (.ret, st)
  | .region _ ops draw, st => (exOps E (keysOf ops) ops ops.toList st).bind fun r => bif !draw || confB ops r.1 then .leaf (.normal, r.2) else .fail
  | .seq a b, st => (exC E a st).bind fun r => match r.1 with
    | .normal => exC E b r.2
    | e => .leaf (e, r.2)
  | .cond c x y, st => match st.opd c with
    | some (.one [.lit (.bool true)]) => exC E x st
    | some (.one [.lit (.bool false)]) => exC E y st
    | some (.one [.sym (.bool b)]) => .br b (exC E x st) (exC E y st)
    | _ => .fail
  | .block id c, st => (exC E c st).bind fun r => match r.1 with
    | .exit i => bif i == id then .leaf (.normal, r.2) else .leaf (.exit i, r.2)
    | e => .leaf (e, r.2)
  | .scope c, st => exC E c st
  | .loop c, st => exLoop (exC E c) 300 st
  | _, _ => .fail
def U.noPtr : U → Bool
  | .ptr _ _ | .own _ _ => false
  | _ => true
def V.noPtr : V → Bool
  | [] => true
  | u :: r => u.noPtr && V.noPtr r
def allNoPtr : List V → Bool
  | [] => true
  | v :: r => V.noPtr v && allNoPtr r
def res1 (E : Env) (st : St) : ResultVar → Option V
  | .tmp t => match (nth st.slots t).getD none with
    | some (.one v) => some v
    | _ => none
  | .cell p t => match (nth st.slots p).getD none, look E.ty t with
    | some (.one [.ptr b o]), some y => match st.at b with
      | some B => V.grab B.us o y.size
      | none => none
    | _, _ => none
/-- A row that is given back stays as it is from then on. -/
def resFz (st : St) : V → Option V
  | [.own b n] => match st.at b with
    | some B => (frzB B n false).map fun u => [u]
    | none => none
  | v => some v
def resAll (E : Env) (st : St) : List ResultVar → Option (List V)
  | [] => some []
  | r :: l => match (res1 E st r).bind (resFz st), resAll E st l with
    | some v, some vs => some (v :: vs)
    | _, _ => none
def resT : List V → T
  | [v] => .one v
  | l => .tup l
def nones : Nat → List (Option T)
  | 0 => []
  | n + 1 => none :: nones n
def exFn (E : Env) (fn : Func) (args : List V) : Out T := match fn.body with
  | none => .fail
  | some c => bif allNoPtr args then (exC E c ⟨args.map (fun v => some (.one v)) ++ nones (fn.ntmps - args.length), [], 0⟩).bind fun r => match r.1 with
      | .exit _ => .fail
      | _ => match resAll E r.2 fn.results.toList with
        | some l => bif allNoPtr l then .leaf (resT l) else .fail
        | none => .fail
    else .fail
section
variable {E : Env} {S0 : Nat → Prop} {C : Ctx} {w wf : World} {st st' : St} {a : Act} {ops : Array Oper} {Q : Exit → Act → World → Prop}
theorem guardV_is {o : Oper} {b : Bool} (h : guardV ops st o = some b) : guardIs ops st o b := by
  unfold guardV at h
  unfold guardIs
  cases hg : o.guard with
  | none => rw [hg] at h; cases h; rfl
  | some g =>
    obtain ⟨g, want⟩ := g
    rw [hg] at h
    dsimp only at h ⊢
    split at h
    · rename_i d hd
      split at h
      · rename_i v hv
        cases h
        exact ⟨d, v, hd, hv, rfl⟩
      · cases h
    · cases h
theorem key_gets {keys : List Nat} {u v : Upd} (h : (u.key keys).gets v) : v.dst = u.dst ∧ v.rb = u.rb ∧ v.box = u.box ∧ (v.t = u.t ∨ ∃ t t', u.t = some t ∧ v.t = some t' ∧ T.sub t t') := by
  unfold Upd.key at h
  split at h
  · rename_i d b hd ht
    cases hm : memN keys d
    · rw [hm] at h
      obtain rfl := h
      exact ⟨rfl, rfl, rfl, .inl rfl⟩
    · rw [hm] at h
      rcases h with ⟨hb, rfl⟩ | ⟨hb, rfl⟩
      · subst hb
        exact ⟨rfl, rfl, rfl, .inr ⟨_, _, ht, rfl, fun _ _ _ h => h⟩⟩
      · subst hb
        exact ⟨rfl, rfl, rfl, .inr ⟨_, _, ht, rfl, fun _ _ _ h => h⟩⟩
  · obtain rfl := h
    exact ⟨rfl, rfl, rfl, .inl rfl⟩
theorem evOp_gets {keys : List Nat} {o : Oper} {u : Upd} (h : (evOp E keys ops st o).gets u) : Ev E ops o st u := by
  unfold evOp at h
  split at h
  · rename_i hg
    split at h
    · rename_i e he
      obtain ⟨v, h1, h2⟩ := gets_bind h
      obtain ⟨k1, k2, k3, k4⟩ := key_gets h2
      have key : v.dst = o.dst ∧ v.rb = boxesOf st o.op ∧ EffUpd E st u e := by
        cases e with
        | val t =>
          obtain rfl := h1
          refine ⟨rfl, rfl, k3, ?_⟩
          rcases k4 with k4 | ⟨x, y, k5, k6, k7⟩
          · exact ⟨t, k4, T.sub_refl t⟩
          · cases k5; exact ⟨y, k6, k7⟩
        | new B =>
          simp only [mkUpd] at h1
          split at h1
          · rename_i hl hb
            obtain rfl := h1
            refine ⟨rfl, rfl, st.next, k3, hl, hb, ?_⟩
            rcases k4 with k4 | ⟨x, y, k5, k6, k7⟩
            · exact k4
            · cases k5
              unfold Upd.key at h2
              split at h2
              · rename_i hx
                simp only [newU, Option.some.injEq, T.one.injEq, List.cons.injEq, and_true] at hx
                cases hz : B.el == 0 <;> rw [hz] at hx <;> cases hx
              · obtain rfl := h2
                rfl
          · exact h1.elim
        | put b off n x c =>
          simp only [mkUpd] at h1
          split at h1
          · rename_i B hB
            obtain rfl := h1
            refine ⟨rfl, rfl, ?_, B, hB, k3⟩
            rcases k4 with k4 | ⟨x, y, k5, k6, k7⟩
            · exact k4
            · cases k5
          · exact h1.elim
        | call f args fz =>
          simp only [mkUpd] at h1
          split at h1
          · rename_i con hcon
            obtain ⟨t, h3, h4⟩ := gets_bind h1
            cases hfl : (fz.isEmpty || T.flat t)
            · rw [hfl] at h4; exact h4.elim
            · rw [hfl] at h4
              obtain rfl := h4
              refine ⟨rfl, rfl, k3, con, ?_⟩
              rcases k4 with k4 | ⟨x, y, k5, k6, k7⟩
              · exact ⟨t, t, hcon, h3, hfl, k4, T.sub_refl t⟩
              · cases k5; exact ⟨_, y, hcon, h3, hfl, k6, k7⟩
          · exact h1.elim
      exact ⟨k1.trans key.1, .inl ⟨guardV_is hg, k2.trans key.2.1, e, he, key.2.2⟩⟩
    · exact h.elim
  · rename_i hg
    obtain rfl := h
    exact ⟨rfl, .inr ⟨guardV_is hg, fun t h => (Option.some.inj h).symm, rfl⟩⟩
  · exact h.elim
theorem exOps_path {keys : List Nat} : ∀ (os : List Oper) {st : St} {us : List Upd} {st' : St}, (exOps E keys ops os st).gets (us, st') → Path E ops os st us ∧ st' = us.foldl St.app st
  | [], st, us, st', h => by
    simp only [exOps, Out.gets, Prod.mk.injEq] at h
    obtain ⟨rfl, rfl⟩ := h
    exact ⟨rfl, rfl⟩
  | o :: os, st, us, st', h => by
    simp only [exOps] at h
    obtain ⟨u, h1, h2⟩ := gets_bind h
    obtain ⟨⟨r, s⟩, h3, h4⟩ := gets_bind h2
    simp only [Out.gets, Prod.mk.injEq] at h4
    obtain ⟨rfl, rfl⟩ := h4
    obtain ⟨h5, h6⟩ := exOps_path os h3
    exact ⟨⟨u, r, rfl, evOp_gets h1, h5⟩, h6⟩
theorem cnt_none {n : Nat} : cnt (fun i => (Array.replicate n false).getD i false) n = n := by
  have : ∀ m, cnt (fun i => (Array.replicate n false).getD i false) m = m := fun m => by
    induction m with
    | zero => rfl
    | succ m ih =>
      simp only [cnt]
      rw [ih, if_neg (by rw [getD_replicate_false]; simp)]
  exact this n
theorem InvE.drawn (h : InvE S0 wf C st a w) : InvE S0 wf C st a { w with drawn := w.drawn + 1 } := by
  have hb : Bel w { w with drawn := w.drawn + 1 } := (Bel.refl w).drew
  exact ⟨h.bel.trans hb, h.defers, h.size, ⟨fun t x hx => by obtain ⟨v, h1, h2⟩ := h.sees.slot t x hx; exact ⟨v, h1, T.rel_stp h2 (hb.stp _)⟩, fun b B hB => by
    obtain ⟨r, cs, js, h1, h2, h3, h4⟩ := h.sees.box b B hB
    exact ⟨r, cs, js, h1, h2, V.rel_stp h3 (hb.stp _), h4⟩⟩, h.inj, h.dom, h.own, h.lt, h.base, h.sup⟩
theorem region_sound (hE : E.Ok) {id : Nat} {draw : Bool} {e : Ex} {st' : St} (h : (exC E (.region id ops draw) st).gets (e, st')) (hi : InvE S0 wf C st a w) (hQ : ∀ C a w, InvE S0 wf C st' a w → Q e.is a w) : (Code.region id ops draw).wp E.P Q a w := by
  simp only [exC] at h
  obtain ⟨⟨us, s⟩, h1, h2⟩ := gets_bind h
  obtain ⟨h3, h4⟩ := exOps_path _ h1
  cases hb : (!draw || confB ops us)
  · rw [hb] at h2; exact h2.elim
  · rw [hb] at h2
    simp only [cond_true, Out.gets, Prod.mk.injEq] at h2
    obtain ⟨rfl, rfl⟩ := h2
    cases draw with
    | false =>
      exact wp_region_list (path_text hE _ h3 hi (fun C a w hi => hQ C a w (by rw [h4]; exact hi)))
    | true =>
      refine wp_region_any hE.mixed ?_
      simp only [Bool.not_true, Bool.false_or] at hb
      have hm : ∀ (us : List Upd) (st : St) (i : Nat), mfold st us (fun i => (Array.replicate ops.size false).getD i false) i = st := fun us => by
        induction us with
        | nil => intro _ _; rfl
        | cons x xs ih => intro st i; simp only [mfold]; rw [getD_replicate_false]; exact ih st (i + 1)
      refine path_any hE h3 hb (fun C a w hi => hQ C a w (by rw [h4]; exact hi)) ops.size (Array.replicate ops.size false) a _ C cnt_none (by simp) (fun j o _ hl => (by rw [getD_replicate_false] at hl; cases hl)) ?_
      rw [hm]
      exact hi.drawn
theorem loop_sound {c : Code} (hc : ∀ {st : St} {e : Ex} {st' : St} {C : Ctx} {a : Act} {w : World} {Q : Exit → Act → World → Prop}, (exC E c st).gets (e, st') → InvE S0 wf C st a w → (∀ C a w, InvE S0 wf C st' a w → Q e.is a w) → c.wp E.P Q a w) :
    ∀ (n : Nat) {st : St} {e : Ex} {st' : St} {C : Ctx} {a : Act} {w : World}, (exLoop (exC E c) n st).gets (e, st') → InvE S0 wf C st a w → (∀ C a w, InvE S0 wf C st' a w → Q e.is a w) → Code.rounds E.P c Q n a w
  | 0, _, _, _, _, _, _, h, _, _ => h.elim
  | n + 1, st, e, st', C, a, w, h, hi, hQ => by
    simp only [exLoop] at h
    obtain ⟨⟨e1, s1⟩, h1, h2⟩ := gets_bind h
    rw [rounds_succ]
    refine hc h1 hi (fun C' a' w' hi' => ?_)
    cases e1 with
    | normal => exact loop_sound hc n h2 hi' hQ
    | exit id =>
      simp only [Out.gets, Prod.mk.injEq] at h2
      obtain ⟨rfl, rfl⟩ := h2
      exact hQ C' a' w' hi'
    | ret =>
      simp only [Out.gets, Prod.mk.injEq] at h2
      obtain ⟨rfl, rfl⟩ := h2
      exact hQ C' a' w' hi'
theorem exC_sound (hE : E.Ok) : ∀ (c : Code) {st : St} {e : Ex} {st' : St} {C : Ctx} {a : Act} {w : World} {Q : Exit → Act → World → Prop}, (exC E c st).gets (e, st') → InvE S0 wf C st a w → (∀ C a w, InvE S0 wf C st' a w → Q e.is a w) → c.wp E.P Q a w := by
  intro c
  induction c with
  | skip =>
    intro st e st' C a w Q h hi hQ
    simp only [exC, Out.gets, Prod.mk.injEq] at h
    obtain ⟨rfl, rfl⟩ := h
    exact wp_skip (hQ C a w hi)
  | label l =>
    intro st e st' C a w Q h hi hQ
    simp only [exC, Out.gets, Prod.mk.injEq] at h
    obtain ⟨rfl, rfl⟩ := h
    exact wp_label (hQ C a w hi)
  | exit id =>
    intro st e st' C a w Q h hi hQ
    simp only [exC, Out.gets, Prod.mk.injEq] at h
    obtain ⟨rfl, rfl⟩ := h
    exact wp_exit (hQ C a w hi)
  | ret =>
    intro st e st' C a w Q h hi hQ
    simp only [exC, Out.gets, Prod.mk.injEq] at h
    obtain ⟨rfl, rfl⟩ := h
    exact wp_ret (hQ C a w hi)
  | region id ops draw =>
    intro st e st' C a w Q h hi hQ
    exact region_sound hE h hi hQ
  | seq x y ihx ihy =>
    intro st e st' C a w Q h hi hQ
    simp only [exC] at h
    obtain ⟨⟨e1, s1⟩, h1, h2⟩ := gets_bind h
    refine wp_seq (ihx h1 hi (fun C' a' w' hi' => ?_))
    cases e1 with
    | normal => exact ihy h2 hi' hQ
    | exit id =>
      simp only [Out.gets, Prod.mk.injEq] at h2
      obtain ⟨rfl, rfl⟩ := h2
      exact hQ C' a' w' hi'
    | ret =>
      simp only [Out.gets, Prod.mk.injEq] at h2
      obtain ⟨rfl, rfl⟩ := h2
      exact hQ C' a' w' hi'
  | cond c x y ihx ihy =>
    intro st e st' C a w Q h hi hQ
    simp only [exC] at h
    have hb : ∀ {u : U} {b : Bool}, st.opd c = some (.one [u]) → u.val.map (·.2) = some (.bool b) → a.eval c = .bool b := fun {u b} hc hu => by
      cases hv : u.val with
      | none => rw [hv] at hu; cases hu
      | some p =>
        obtain ⟨l, v⟩ := p
        rw [hv] at hu
        cases hu
        exact val_of hv (hi.sees.opd hc)
    split at h
    · rename_i hc; exact wp_cond_true (hb hc rfl) (ihx h hi hQ)
    · rename_i hc; exact wp_cond_false (hb hc rfl) (ihy h hi hQ)
    · rename_i b hc
      rcases h with ⟨rfl, h⟩ | ⟨rfl, h⟩
      · exact wp_cond_true (hb hc rfl) (ihx h hi hQ)
      · exact wp_cond_false (hb hc rfl) (ihy h hi hQ)
    · exact h.elim
  | block id c ih =>
    intro st e st' C a w Q h hi hQ
    simp only [exC] at h
    obtain ⟨⟨e1, s1⟩, h1, h2⟩ := gets_bind h
    refine wp_block (ih h1 hi (fun C' a' w' hi' => ?_))
    cases e1 with
    | normal =>
      simp only [Out.gets, Prod.mk.injEq] at h2
      obtain ⟨rfl, rfl⟩ := h2
      exact hQ C' a' w' hi'
    | ret =>
      simp only [Out.gets, Prod.mk.injEq] at h2
      obtain ⟨rfl, rfl⟩ := h2
      exact hQ C' a' w' hi'
    | exit i =>
      by_cases hid : i = id
      · simp only [hid, beq_self_eq_true, cond_true, Out.gets, Prod.mk.injEq] at h2
        obtain ⟨rfl, rfl⟩ := h2
        simp only [Ex.is, Exit.inBlock, hid, if_true]
        exact hQ C' a' w' hi'
      · have : (i == id) = false := by simp [hid]
        simp only [this, cond_false, Out.gets, Prod.mk.injEq] at h2
        obtain ⟨rfl, rfl⟩ := h2
        simp only [Ex.is, Exit.inBlock, hid, if_false]
        exact hQ C' a' w' hi'
  | scope c ih =>
    intro st e st' C a w Q h hi hQ
    simp only [exC] at h
    refine wp_scope_straight (ih h hi (fun C' a' w' hi' => ?_))
    have := hQ C' a' w' hi'
    cases e <;> exact this
  | loop c ih =>
    intro st e st' C a w Q h hi hQ
    simp only [exC] at h
    exact wp_loop_rounds 300 (loop_sound (fun h hi hQ => ih h hi hQ) 300 h hi hQ)
  | _ => intro st e st' C a w Q h hi hQ; exact h.elim
end
end Go.Proofs.YtaaehcohmdojgaaGreatDoor

/-
  The evaluator's functions are contracts.
-/
namespace Go.Proofs.YtaaehcohmdojgaaGreatDoor
open Go.RowKit Go.Shelf

section
variable {E : Env} {S0 : Nat → Prop} {C C' : Ctx} {w wf : World} {st st' : St} {a : Act} {Q : Exit → Act → World → Prop}
theorem U.rel_drop {u : U} {cs : List Value} (h : u.rel C w cs) (hn : u.noPtr = true) (hs : ∀ b, C'.S b → C.S b) : u.rel C' w cs := by
  cases u <;> simp only [U.rel] at h ⊢ <;> try exact h
  case ptr => cases hn
  case own => cases hn
  case sl => obtain ⟨G, h1, h2, h3⟩ := h; exact ⟨G, h1, h2, fun i u hi => ⟨fun h => (h3 i u hi).1 (hs G h), (h3 i u hi).2⟩⟩
  case fr =>
    obtain ⟨p, c, h1, h2, h3, h3', h4⟩ := h
    exact ⟨p, c, h1, h2, h3, h3', fun hne => by obtain ⟨G, o, h5, h6⟩ := h4 hne; exact ⟨G, o, h5, h6.le (fun b _ => hs b)⟩⟩
  case fpt => obtain ⟨G, o, h1, h2, h3⟩ := h; exact ⟨G, o, h1, h2, h3.le (fun b _ => hs b)⟩
theorem V.rel_drop : ∀ {x : V} {cs : List Value}, x.rel C w cs → x.noPtr = true → (∀ b, C'.S b → C.S b) → x.rel C' w cs
  | [], _, h, _, _ => h
  | _ :: _, _, h, hn, hs => by
    obtain ⟨c1, c2, h0, h1, h2⟩ := h
    simp only [V.noPtr, Bool.and_eq_true] at hn
    exact ⟨c1, c2, h0, U.rel_drop h1 hn.1 hs, V.rel_drop h2 hn.2 hs⟩
theorem V.has_drop {x : V} {v : Value} (h : x.has C w v) (hn : x.noPtr = true) (hs : ∀ b, C'.S b → C.S b) : x.has C' w v := let ⟨cs, h1, h2⟩ := h; ⟨cs, V.rel_drop h1 hn hs, h2⟩
theorem V.all_drop : ∀ {l : List V} {vs : List Value}, V.hasAll C w l vs → allNoPtr l = true → (∀ b, C'.S b → C.S b) → V.hasAll C' w l vs
  | [], _, h, _, _ => h
  | _ :: _, _, h, hn, hs => by
    obtain ⟨v, r, h0, h1, h2⟩ := h
    simp only [allNoPtr, Bool.and_eq_true] at hn
    exact ⟨v, r, h0, V.has_drop h1 hn.1 hs, V.all_drop h2 hn.2 hs⟩
theorem resT_rel {l : List V} {vs : List Value} (h : V.hasAll C w l vs) : T.rel C w (resT l) (if h : vs.toArray.size = 1 then vs.toArray[0] else .tuple vs.toArray) := by
  match l, h with
  | [], h => simp only [V.hasAll] at h; subst h; exact ⟨[], rfl, rfl⟩
  | [x], h =>
    obtain ⟨v, r, rfl, h1, h2⟩ := h
    simp only [V.hasAll] at h2
    subst h2
    exact h1
  | x :: y :: l, h =>
    have h0 := h
    obtain ⟨v, r, rfl, -, u, s, rfl, -, -⟩ := h
    rw [dif_neg (by simp)]
    exact ⟨_, rfl, h0⟩
theorem hasAll_len : ∀ {l : List V} {vs : List Value}, V.hasAll C w l vs → vs.length = l.length
  | [], _, h => by simp only [V.hasAll] at h; subst h; rfl
  | _ :: _, _, h => by obtain ⟨v, r, rfl, _, h2⟩ := h; simp [hasAll_len h2]
theorem slot_of {t : Nat} {x : T} (hi : InvE S0 wf C st a w) (h : (nth st.slots t).getD none = some x) : T.rel C w x (a.tmps.getD t undef) := by
  cases hn : nth st.slots t with
  | none => rw [hn] at h; cases h
  | some y =>
    rw [hn] at h
    simp only [Option.getD_some] at h
    subst h
    obtain ⟨v, h1, h2⟩ := hi.sees.slot t x hn
    simp only [Array.getD_eq_getD_getElem?, h1, Option.getD_some]
    exact h2
theorem res1_run (hE : E.Ok) (hi : InvE S0 wf C st a w) {r : ResultVar} {x : V} (h : res1 E st r = some x) :
    ∃ v, (match r with | .tmp t => pure (a.tmps.getD t undef) | .cell p t => do loadVar t (← asAddr (a.tmps.getD p undef)) : Sem Value).run E.P w = .ok v w ∧ x.has C w v := by
  cases r with
  | tmp t =>
    simp only [res1] at h
    split at h
    · rename_i v hv
      cases h
      exact ⟨_, rfl, slot_of hi hv⟩
    · cases h
  | cell p t =>
    simp only [res1] at h
    split at h
    · rename_i b o y hb hy
      split at h
      · rename_i B hB
        obtain ⟨r, h1, h2⟩ := ptr_rel (slot_of hi hb)
        obtain ⟨r', cs, js, h3, h4, h5, -⟩ := hi.sees.box b B hB
        rw [h1] at h3
        cases h3
        obtain ⟨h6, h7⟩ := V.grab_rel h5 h
        have hl := load_mid (hE.ty t y hy) h4 h6
        simp only [Instr.loadAt, Instr.sureAddr, Sem.run_bind, Sem.run_pure, Result.andThen_ok] at hl
        refine ⟨_, ?_, _, h7, rfl⟩
        dsimp only
        rw [h2]
        simp only [asAddr, Sem.run_bind, Sem.run_pure, Result.andThen_ok]
        exact hl
      · cases h
    · cases h
theorem resFz_has (hi : InvE S0 wf C st a w) {D : Ctx} (hD : ∀ b, D.S b → C.S b) (hno : ∀ b r, C.β b = some r → ¬ D.S r) {x y : V} {v : Value} (h : resFz st x = some y) (hn : y.noPtr = true) (hx : x.has C w v) : y.has D w v := by
  unfold resFz at h
  split at h
  · rename_i b n
    split at h
    · rename_i B hB
      cases hu : frzB B n false with
      | none => rw [hu] at h; cases h
      | some u =>
        rw [hu] at h
        cases h
        obtain ⟨r, hβ, rfl⟩ := own_rel hx
        obtain ⟨r', cs, js, k1, k2, k3, -, k5, k6⟩ := hi.sees.box b B hB
        rw [hβ] at k1
        cases k1
        have h3 := frzB_rel (C := ⟨D.S, C.β, C.κ⟩) hu (hno b r hβ) k2 (V.rel_le k3 ⟨fun _ _ h => h, fun _ _ _ => rfl, fun b _ h => hD b h⟩) (fun h => (k5 h).1) k6
        exact V.has_drop h3 hn (fun _ h => h)
    · cases h
  · cases h
    exact V.has_drop hx hn hD
theorem resAll_run (hE : E.Ok) (hi : InvE S0 wf C st a w) {D : Ctx} (hD : ∀ b, D.S b → C.S b) (hno : ∀ b r, C.β b = some r → ¬ D.S r) : ∀ {l : List ResultVar} {xs : List V}, resAll E st l = some xs → allNoPtr xs = true →
    ∃ vs, (l.mapM fun (r : ResultVar) => (match r with | .tmp t => pure (a.tmps.getD t undef) | .cell p t => do loadVar t (← asAddr (a.tmps.getD p undef)) : Sem Value)).run E.P w = .ok vs w ∧ V.hasAll D w xs vs
  | [], xs, h, _ => by simp only [resAll, Option.some.injEq] at h; subst h; exact ⟨[], rfl, rfl⟩
  | r :: l, xs, h, hn => by
    simp only [resAll] at h
    split at h
    · rename_i x ys hx hys
      cases h
      simp only [allNoPtr, Bool.and_eq_true] at hn
      cases hr : res1 E st r with
      | none => rw [hr] at hx; cases hx
      | some x0 =>
        rw [hr] at hx
        obtain ⟨v, h1, h2⟩ := res1_run hE hi hr
        obtain ⟨vs, h3, h4⟩ := resAll_run hE hi hD hno hys hn.2
        refine ⟨v :: vs, ?_, v, vs, rfl, resFz_has hi hD hno hx hn.1 h2, h4⟩
        rw [List.mapM_cons]
        simp only [Sem.run_bind, h1, Result.andThen_ok, h3, Sem.run_pure]
    · cases h
theorem nones_len : ∀ n, (nones n).length = n
  | 0 => rfl
  | n + 1 => by simp [nones, nones_len n]
theorem nones_at {x : T} : ∀ (n t : Nat), nth (nones n) t ≠ some (some x)
  | 0, _ => by simp [nones, nth]
  | n + 1, 0 => by simp [nones, nth]
  | n + 1, t + 1 => by simpa [nones, nth] using nones_at n t
theorem args_at : ∀ {l : List V} {vs : List Value} {n t : Nat} {x : T}, V.hasAll C w l vs → nth (l.map (fun v => some (T.one v)) ++ nones n) t = some (some x) → ∃ v, vs[t]? = some v ∧ T.rel C w x v
  | [], vs, n, t, x, _, h => absurd h (nones_at n t)
  | y :: l, vs, n, 0, x, ha, h => by
    obtain ⟨v, r, rfl, h1, _⟩ := ha
    simp only [List.map_cons, List.cons_append, nth, Option.some.injEq] at h
    subst h
    exact ⟨v, rfl, h1⟩
  | y :: l, vs, n, t + 1, x, ha, h => by
    obtain ⟨v, r, rfl, _, h2⟩ := ha
    simp only [List.map_cons, List.cons_append, nth] at h
    obtain ⟨u, h3, h4⟩ := args_at h2 h
    exact ⟨u, by simpa using h3, h4⟩
/-- A function of the program, evaluated, is a contract. -/
theorem fn_calls (hE : E.Ok) {f : FuncId} {fn : Func} (hf : E.P.funcs[f]? = some fn) {args : List V} {t : T} (h : (exFn E fn args).gets t) {vs : List Value} (hlt : ∀ r, C.S r → r < w.heap.size) (ha : V.hasAll C w args vs) :
    Calls E.P f (List.toArray vs) w (Makes w fun v w' => T.rel C w' t v) := by
  unfold exFn at h
  split at h
  · exact h.elim
  · rename_i c hb
    cases hn : allNoPtr args
    · rw [hn] at h; exact h.elim
    · rw [hn] at h
      simp only [cond_true] at h
      obtain ⟨⟨e, s⟩, h1, h2⟩ := gets_bind h
      refine calls_of_wp hf hb ?_
      have ha' : V.hasAll ⟨C.S, fun _ => none, fun _ => 0⟩ w args vs := V.all_drop ha hn (fun _ h => h)
      have hlen := hasAll_len ha
      have hi : InvE C.S w ⟨C.S, fun _ => none, fun _ => 0⟩ ⟨args.map (fun v => some (T.one v)) ++ nones (fn.ntmps - args.length), [], 0⟩ { tmps := List.toArray vs ++ Array.replicate (fn.ntmps - (List.toArray vs).size) undef, defers := [] } w :=
        { bel := Bel.refl w, defers := rfl, size := by simp [nones_len, hlen], inj := fun b b' r B B' hB => (by cases hB), dom := fun _ _ => rfl, own := fun b r h => (by cases h), lt := hlt, base := fun b r h => (by cases h), sup := fun _ h => h
          sees := ⟨fun t x hx => by
            obtain ⟨v, h3, h4⟩ := args_at ha' hx
            refine ⟨v, ?_, h4⟩
            have := (List.getElem?_eq_some_iff.1 h3).1
            rw [Array.getElem?_append_left (by simpa using this)]
            simpa using h3, fun b B hB => (by cases hB)⟩ }
      have hfin : ∀ (C' : Ctx) (a : Act) (w' : World), InvE C.S w C' s a w' → (match resAll E s fn.results.toList with | some l => bif allNoPtr l then Out.leaf (resT l) else .fail | none => .fail).gets t → a.defers = [] ∧ ∃ v, (results fn a.tmps).run E.P w' = .ok v w' ∧ Makes w (fun v w' => T.rel C w' t v) (.returned v) w' := fun C' a w' hi' h2 => by
        refine ⟨hi'.defers, ?_⟩
        split at h2
        · rename_i l hl
          cases hnl : allNoPtr l
          · rw [hnl] at h2; exact h2.elim
          · rw [hnl] at h2
            simp only [cond_true, Out.gets] at h2
            subst h2
            obtain ⟨rs, h3, h4⟩ := resAll_run hE hi' (D := C) hi'.sup (fun b r hb hS => by have := hi'.base b r hb; have := hlt r hS; omega) hl hnl
            refine ⟨_, ?_, _, rfl, hi'.bel, resT_rel h4⟩
            unfold results
            rw [Array.mapM_eq_mapM_toList]
            simp only [Sem.run_bind, Sem.run_map, Sem.run_pure]
            exact congrArg (fun (r : Result (List Value)) => (r.andThen fun a w' => Result.ok a.toArray w').andThen fun (a : Array Value) w' => Result.ok (if h : a.size = 1 then a[0] else Value.tuple a) w') h3
        · exact h2.elim
      refine exC_sound hE c h1 hi (fun C' a w' hi' => ?_)
      cases e with
      | normal => exact hfin C' a w' hi' h2
      | ret => exact hfin C' a w' hi' h2
      | exit id => exact h2.elim
theorem fn_tree (hE : E.Ok) {f : FuncId} {fn : Func} (hf : E.P.funcs[f]? = some fn) {args : List V} {o : Out T} {t : T} (he : exFn E fn args = o) (h : o.gets t) {vs : List Value} (hlt : ∀ r, C.S r → r < w.heap.size) (ha : V.hasAll C w args vs) :
    Calls E.P f (List.toArray vs) w (Makes w fun v w' => T.rel C w' t v) := by
  subst he
  exact fn_calls hE hf h hlt ha
theorem OkCon.fn (hE : E.Ok) {f : FuncId} {fn : Func} {c : Code} (hf : E.P.funcs[f]? = some fn) (hb : fn.body = some c) (hname : (fn.name == "runtime.NumGoroutine") = false) : OkCon E.P f (exFn E fn) :=
  ⟨fun vs w => Go.MuLone.run_callFunc_enter hf hname hb vs w, fun _ _ h _ _ _ hlt ha => fn_calls hE hf h hlt ha⟩
end
end Go.Proofs.YtaaehcohmdojgaaGreatDoor

/-
  The evaluator's types and its first contracts.
-/
namespace Go.Proofs.YtaaehcohmdojgaaGreatDoor
open Go.RowKit Go.Shelf

def zRat : U := .raw (.bool false) (.slice none 0 0) (.slice none 0 0) 0 1
def zU : Option Value → U
  | some v => .lit v
  | none => zRat
/-- A type's row: its number, its size, its zero value (none: a fraction's three cells), its kind. -/
structure TRow where
  t : TypeId
  size : Nat
  zs : List (Option Value)
  kd : Kd
def TRow.ty (r : TRow) : TypeId × Ty := (r.t, ⟨r.size, r.zs.map zU, r.kd⟩)
def sameV : Value → Value → Bool
  | .bool a, .bool b => a == b
  | .int k x, .int k' y => decide (k = k') && x == y
  | .slice none 0 0, .slice none 0 0 => true
  | .nilFunc, .nilFunc => true
  | .pointer none, .pointer none => true
  | .string ⟨⟨[]⟩⟩, .string ⟨⟨[]⟩⟩ => true
  | _, _ => false
def zcB : List (Option Value) → List Value → Bool
  | [], [] => true
  | some v :: r, c :: cs => sameV v c && zcB r cs
  | none :: r, .bool false :: .slice none 0 0 :: .slice none 0 0 :: cs => zcB r cs
  | _, _ => false
def sizesB (P : Program) : List Field → List Nat → List Nat → Bool
  | [], [], [] => true
  | f :: fs, o :: os, n :: ns => f.offset == o && (match rowAt P f.type with | some (m, b) => m == n && b == !(n == 1) | none => false) && !(n == 0) && sizesB P fs os ns
  | _, _, _ => false
def descB (P : Program) : TypeDesc → Kd → Bool
  | .struct fs, .str offs szs => sizesB P fs.toList offs szs
  | .array n e, .arr m sz => n == m && (match rowAt P e with | some (k, b) => k == sz && b == !(sz == 1) | none => false)
  | .slice e, .slc e' sz pl => (match P.info? e with | some i => e == e' && i.size == sz && !(sz == 0) && i.bytes.ble 1000000 && (match i.zero with | some z => z.cells.size == sz && (!pl || z.cells.toList.all plainV) | none => false) | none => false)
  | .int k, .int k' => decide (k = k')
  | .bool, .bool => true
  | .struct _, _ | .array _ _, _ => false
  | _, .other => true
  | _, _ => false
def TRow.ok (P : Program) (r : TRow) : Bool := match P.info? r.t, P.underlying r.t with
  | some i, some d => i.size == r.size && (match i.zero with | some z => z.cells.size == r.size && zcB r.zs z.cells.toList | none => false) && descB P d r.kd && (r.kd.row == !(r.size == 1)) && V.fine (r.zs.map zU)
  | _, _ => false
theorem same_of {v c : Value} (h : sameV v c = true) : v = c := by
  unfold sameV at h
  split at h <;> first | rfl | skip
  · simp only [beq_iff_eq] at h; rw [h]
  · simp only [Bool.and_eq_true, decide_eq_true_eq, beq_iff_eq] at h; rw [h.1, h.2]
  · cases h
theorem zc_rel {C : Ctx} {w : World} : ∀ {zs : List (Option Value)} {cs : List Value}, zcB zs cs = true → V.rel C w (zs.map zU) cs
  | [], [], _ => rfl
  | [], _ :: _, h => by simp [zcB] at h
  | some v :: r, [], h => by simp [zcB] at h
  | some v :: r, c :: cs, h => by
    simp only [zcB, Bool.and_eq_true] at h
    obtain rfl := same_of h.1
    exact ⟨[_], cs, rfl, rfl, zc_rel h.2⟩
  | none :: r, cs, h => by
    have key : ∃ ds, cs = .bool false :: .slice none 0 0 :: .slice none 0 0 :: ds ∧ zcB r ds = true := by
      unfold zcB at h
      split at h <;> rename_i he <;> first | (cases he; done) | skip
      · cases he; exact ⟨_, rfl, h⟩
      · cases h
    obtain ⟨ds, rfl, h⟩ := key
    exact ⟨[_, _, _], _, rfl, ⟨rfl, ⟨⟨false, _, _, 0, 0, rfl, ni_nil w, ni_nil w, by decide +kernel⟩, by decide, by decide⟩⟩, zc_rel h⟩
theorem sizes_of {P : Program} : ∀ {fs : List Field} {os ns : List Nat}, sizesB P fs os ns = true → fs.map (·.offset) = os ∧ fs.map (fun f => rowAt P f.type) = ns.map (fun n => some (n, !(n == 1))) ∧ 0 ∉ ns
  | [], [], [], _ => ⟨rfl, rfl, by simp⟩
  | f :: fs, o :: os, n :: ns, h => by
    simp only [sizesB, Bool.and_eq_true, beq_iff_eq, Bool.not_eq_true', beq_eq_false_iff_ne] at h
    obtain ⟨⟨⟨h1, h2⟩, h3⟩, h4⟩ := h
    obtain ⟨h5, h6, h7⟩ := sizes_of h4
    refine ⟨by simp [h1, h5], ?_, by simp [h7, Ne.symm h3]⟩
    split at h2
    · rename_i m b hr
      simp only [Bool.and_eq_true, beq_iff_eq] at h2
      simp [hr, h2.1, h2.2, h6]
    · cases h2
  | [], _ :: _, _, h => by simp [sizesB] at h
  | [], [], _ :: _, h => by simp [sizesB] at h
  | _ :: _, [], _, h => by simp [sizesB] at h
  | _ :: _, _ :: _, [], h => by simp [sizesB] at h
theorem desc_of {P : Program} {d : TypeDesc} {k : Kd} (h : descB P d k = true) : DescOk P d k := by
  cases d <;> cases k <;> simp only [descB] at h <;> first | trivial | (cases h; done) | skip
  case struct.str => exact sizes_of h
  case array.arr =>
    simp only [Bool.and_eq_true, beq_iff_eq] at h
    refine ⟨h.1, ?_⟩
    have h2 := h.2
    split at h2
    · rename_i hr
      simp only [Bool.and_eq_true, beq_iff_eq] at h2
      rw [hr, h2.1, h2.2]
    · cases h2
  case slice.slc =>
    split at h
    · rename_i i hi
      simp only [Bool.and_eq_true, beq_iff_eq, Bool.not_eq_true', beq_eq_false_iff_ne] at h
      obtain ⟨⟨⟨⟨h1, h2⟩, h3⟩, h4⟩, h5⟩ := h
      split at h5
      · rename_i z hz
        simp only [Bool.and_eq_true, beq_iff_eq, Bool.or_eq_true, Bool.not_eq_true'] at h5
        refine ⟨h1, Nat.pos_of_ne_zero h3, i, z, hi, h2, hz, h5.1, Nat.le_of_ble_eq_true h4, fun hp => ?_⟩
        rcases h5.2 with h6 | h6
        · rw [hp] at h6; cases h6
        · exact List.all_eq_true.1 h6
      · cases h5
    · cases h
  case int.int => simpa [DescOk] using h
theorem TRow.tyOk {P : Program} {r : TRow} (h : r.ok P = true) : TyOk P r.t r.ty.2 := by
  unfold TRow.ok at h
  split at h
  · rename_i i d hi hd
    simp only [Bool.and_eq_true, beq_iff_eq] at h
    obtain ⟨⟨⟨⟨h1, h2⟩, h3⟩, h4⟩, h5⟩ := h
    split at h2
    · rename_i z hz
      simp only [Bool.and_eq_true, beq_iff_eq] at h2
      exact ⟨⟨i, hi, h1, z, hz, h2.1, fun C w => zc_rel h2.2⟩, ⟨d, hd, desc_of h3⟩, h4, h5⟩
    · cases h2
  · cases h
theorem look_mem {α : Type} : ∀ {l : List (Nat × α)} {n : Nat} {x : α}, look l n = some x → (n, x) ∈ l
  | (k, a) :: r, n, x, h => by
    simp only [look] at h
    cases hk : k == n
    · rw [hk] at h; exact List.mem_cons_of_mem _ (look_mem h)
    · rw [hk] at h
      simp only [beq_iff_eq] at hk
      cases h
      rw [hk]
      exact List.mem_cons_self
theorem rows_ok {P : Program} {rs : List TRow} (h : rs.all (TRow.ok P) = true) : ∀ t y, look (rs.map TRow.ty) t = some y → TyOk P t y := fun t y hy => by
  obtain ⟨r, hr, he⟩ := List.mem_map.1 (look_mem hy)
  have := TRow.tyOk (List.all_eq_true.1 h r hr)
  simp only [TRow.ty, Prod.mk.injEq] at he
  obtain ⟨rfl, rfl⟩ := he
  exact this
def AllCon (P : Program) : List (FuncId × Con) → Prop
  | [] => True
  | p :: r => OkCon P p.1 p.2 ∧ AllCon P r
theorem con_ok {P : Program} : ∀ {l : List (FuncId × Con)}, AllCon P l → ∀ f c, look l f = some c → OkCon P f c
  | (g, d) :: r, h, f, c, hl => by
    simp only [look] at hl
    cases hk : g == f
    · rw [hk] at hl; exact con_ok h.2 f c hl
    · rw [hk] at hl
      simp only [beq_iff_eq] at hk
      cases hl
      subst hk
      exact h.1
/-! ### Fractions in contracts -/
def natU : U → Option (Nat × Nat)
  | .nat n k => some (n, k)
  | .lit (.slice none 0 0) => some (0, 0)
  | .li l k => some (valB B64 l, k)
  | _ => none
def boolU : U → Option Bool
  | .lit (.bool b) | .sym (.bool b) => some b
  | _ => none
def asRat : V → Option (Rat × Nat)
  | [.rat q k] | [.rd q k] | [.raw _ _ _ q k] => some (q, k)
  | [.inp s _ _ l m k] => some (ratOf s (valB B64 l) (valB B64 m), k + 1)
  | [u, x, y] => match boolU u, natU x, natU y with
    | some s, some (n, i), some (m, j) => some (ratOf s n m, i + j + 1)
    | _, _, _ => none
  | _ => none
section
variable {C : Ctx} {w : World}
theorem LI.ni {v : Value} {l : List Nat} {k : Nat} (h : LI w v l k) (hk : k < 400000000) : NI w v (valB B64 l) := by
  obtain ⟨p, c, rfl, h1, h2, h3⟩ := h
  exact ⟨p, c, l, rfl, h1, h2, rfl, by omega⟩
theorem LI.lt {v : Value} {l : List Nat} {k : Nat} (h : LI w v l k) : valB B64 l < B64 ^ k := by
  obtain ⟨p, c, rfl, h1, h2, h3⟩ := h
  exact Nat.lt_of_lt_of_le (val_lt h1.all) (Nat.pow_le_pow_right b64_pos h3)
theorem natU_rel {u : U} {n k : Nat} {cs : List Value} (h : natU u = some (n, k)) (hr : u.rel C w cs) (hk : k ≤ LimK) : ∃ v, cs = [v] ∧ NI w v n ∧ n < B64 ^ k := by
  unfold natU at h
  split at h
  · cases h
    obtain ⟨v, rfl, h1, h2⟩ := hr
    exact ⟨v, rfl, h1.ni h2 (by unfold LimK at hk; omega), h2⟩
  · cases h
    simp only [U.rel] at hr
    exact ⟨_, hr, ni_nil w, by decide⟩
  · cases h
    obtain ⟨v, rfl, h1⟩ := hr
    exact ⟨v, rfl, h1.ni (by unfold LimK at hk; omega), h1.lt⟩
  · cases h
theorem boolU_rel {u : U} {b : Bool} {cs : List Value} (h : boolU u = some b) (hr : u.rel C w cs) : cs = [.bool b] := by
  unfold boolU at h
  split at h <;> first | (cases h; exact hr) | cases h
theorem asRat_rel {x : V} {q : Rat} {k : Nat} {v : Value} (h : asRat x = some (q, k)) (hr : x.has C w v) (hk : k ≤ LimK) : RS k w v q := by
  obtain ⟨cs, hr, rfl⟩ := hr
  unfold asRat at h
  split at h
  · cases h
    obtain ⟨c1, c2, rfl, ⟨a, b, c, rfl, h1, h2⟩, h3⟩ := hr
    simp only [V.rel] at h3
    subst h3
    exact h1.rs h2
  · cases h
    obtain ⟨c1, c2, rfl, ⟨a, b, c, rfl, h1⟩, h3⟩ := hr
    simp only [V.rel] at h3
    subst h3
    exact h1
  · cases h
    obtain ⟨c1, c2, rfl, ⟨rfl, h1⟩, h3⟩ := hr
    simp only [V.rel] at h3
    subst h3
    exact h1
  · rename_i s b c l m k
    cases h
    obtain ⟨c1, c2, rfl, ⟨rfl, h1, h2⟩, h3⟩ := hr
    simp only [V.rel] at h3
    subst h3
    have hk' : k < 400000000 := by unfold LimK at hk; omega
    exact ⟨⟨s, b, c, _, _, rfl, h1.ni hk', h2.ni hk', rfl⟩, sz_of (Nat.lt_of_lt_of_le h1.lt (Nat.pow_le_pow_right b64_pos (by omega))) (Nat.lt_of_lt_of_le h2.lt (Nat.pow_le_pow_right b64_pos (by omega))) (by omega)⟩
  · rename_i u a b
    split at h
    · rename_i s n i m j hs hn hm
      cases h
      obtain ⟨c1, c2, rfl, h1, c3, c4, rfl, h2, c5, c6, rfl, h3, h4⟩ := hr
      simp only [V.rel] at h4
      subst h4
      obtain rfl := boolU_rel hs h1
      obtain ⟨v1, rfl, h5, h6⟩ := natU_rel hn h2 (by omega)
      obtain ⟨v2, rfl, h7, h8⟩ := natU_rel hm h3 (by omega)
      exact ⟨⟨s, v1, v2, n, m, rfl, h5, h7, rfl⟩, sz_of (Nat.lt_of_lt_of_le h6 (Nat.pow_le_pow_right b64_pos (by omega))) (Nat.lt_of_lt_of_le h8 (Nat.pow_le_pow_right b64_pos (by omega))) (by omega)⟩
    · cases h
  · cases h
theorem rat_has {q : Rat} {k : Nat} {v : Value} (h : RN k w v q) (hk : k ≤ LimK) : T.rel C w (.one [.rat q k]) v := by
  obtain ⟨s, p, n, c, r, m, d, rfl⟩ := h.parts
  exact ⟨[_, _, _], ⟨[_, _, _], [], rfl, ⟨_, _, _, rfl, h, hk⟩, rfl⟩, rfl⟩
theorem rd_has {q : Rat} {k : Nat} {v : Value} (h : RS k w v q) : T.rel C w (.one [.rd q k]) v := by
  obtain ⟨s, p, n, c, r, m, d, _, _, rfl, _⟩ := h.1.slice
  exact ⟨[_, _, _], ⟨[_, _, _], [], rfl, ⟨_, _, _, rfl, h⟩, rfl⟩, rfl⟩
theorem all2 {x y : V} {vs : List Value} (h : V.hasAll C w [x, y] vs) : ∃ a b, vs = [a, b] ∧ x.has C w a ∧ y.has C w b := by
  obtain ⟨a, r, rfl, h1, b, s, rfl, h2, h3⟩ := h
  simp only [V.hasAll] at h3
  subst h3
  exact ⟨a, b, rfl, h1, h2⟩
theorem all1 {x : V} {vs : List Value} (h : V.hasAll C w [x] vs) : ∃ a, vs = [a] ∧ x.has C w a := by
  obtain ⟨a, r, rfl, h1, h3⟩ := h
  simp only [V.hasAll] at h3
  subst h3
  exact ⟨a, rfl, h1⟩
end
def conR1 (F : Rat → Nat → Out T) : Con
  | [x] => match asRat x with | some (q, k) => F q k | none => .fail
  | _ => .fail
def conR2 (F : Rat → Nat → Rat → Nat → Out T) : Con
  | [x, y] => match asRat x, asRat y with | some (q, i), some (r, j) => F q i r j | _, _ => .fail
  | _ => .fail
theorem r1_ok {P : Program} {f : FuncId} {F : Rat → Nat → Out T} (he : ∀ vs w, (callFunc f vs).run P w = .ok (.enter f vs) w)
    (h : ∀ q k t, (F q k).gets t → k ≤ LimK ∧ ∀ C w a, RS k w a q → Calls P f #[a] w (Makes w fun v w' => T.rel C w' t v)) : OkCon P f (conR1 F) := ⟨he, fun args t hg C w vs _ ha => by
  unfold conR1 at hg
  split at hg
  · rename_i x
    split at hg
    · rename_i q k hq
      obtain ⟨a, rfl, h1⟩ := all1 ha
      obtain ⟨h2, h3⟩ := h q k t hg
      exact h3 C w a (asRat_rel hq h1 h2)
    · exact hg.elim
  · exact hg.elim⟩
theorem r2_ok {P : Program} {f : FuncId} {F : Rat → Nat → Rat → Nat → Out T} (he : ∀ vs w, (callFunc f vs).run P w = .ok (.enter f vs) w)
    (h : ∀ q i r j t, (F q i r j).gets t → i ≤ LimK ∧ j ≤ LimK ∧ ∀ C w a b, RS i w a q → RS j w b r → Calls P f #[a, b] w (Makes w fun v w' => T.rel C w' t v)) : OkCon P f (conR2 F) := ⟨he, fun args t hg C w vs _ ha => by
  unfold conR2 at hg
  split at hg
  · rename_i x y
    split at hg
    · rename_i q i r j hq hr
      obtain ⟨a, b, rfl, h1, h2⟩ := all2 ha
      obtain ⟨h3, h4, h5⟩ := h q i r j t hg
      exact h5 C w a b (asRat_rel hq h1 h3) (asRat_rel hr h2 h4)
    · exact hg.elim
  · exact hg.elim⟩
/-! ### rat -/
def cAdd (q : Rat) (i : Nat) (r : Rat) (j : Nat) : Out T := .chk ((i + j).blt LimK) (.leaf (.one [.rat (q + r) (i + j + 1)]))
def cSub (q : Rat) (i : Nat) (r : Rat) (j : Nat) : Out T := .chk ((i + j).blt LimK) (.leaf (.one [.rat (q - r) (i + j + 1)]))
def cMul (q : Rat) (i : Nat) (r : Rat) (j : Nat) : Out T := .chk ((i + j).blt LimK) (.leaf (.one [.rat (q * r) (i + j)]))
def cCmp (q : Rat) (i : Nat) (r : Rat) (j : Nat) : Out T := .chk ((i + j).blt LimK) (.leaf (.one [.sym (.int .i64 (cmpR q r))]))
def cDiv (q : Rat) (i : Nat) (r : Rat) (j : Nat) : Out T := .chk ((i + j).blt LimK) (.br (decide (r = 0)) (.leaf (.tup [[zRat], [.lit (.int .i64 12)]])) (.leaf (.tup [[.rat (q / r) (i + j)], [.lit (.int .i64 0)]])))
def cSign (q : Rat) (i : Nat) : Out T := .chk (i.blt LimK) (.leaf (.one [.sym (.int .i64 (cmpR q 0))]))
def cNeg (q : Rat) (i : Nat) : Out T := .chk (i.blt LimK) (.leaf (.one [.rat (-q) i]))
theorem ok_add : OkCon Tryz.prog 90 (conR2 cAdd) := r2_ok (fun vs w => Go.MuLone.run_callFunc_enter Tryz.func90 rfl rfl vs w) fun q i r j t h => by
  obtain ⟨h1, rfl⟩ := h
  have h1 := Nat.ble_eq.mp h1
  exact ⟨by omega, by omega, fun C w a b ha hb => (au_radd ha hb h1).mono fun _ _ h => h.imp fun _ h => rat_has h (by omega)⟩
theorem ok_sub : OkCon Tryz.prog 74 (conR2 cSub) := r2_ok (fun vs w => Go.MuLone.run_callFunc_enter Tryz.func74 rfl rfl vs w) fun q i r j t h => by
  obtain ⟨h1, rfl⟩ := h
  have h1 := Nat.ble_eq.mp h1
  exact ⟨by omega, by omega, fun C w a b ha hb => (au_rsub ha hb h1).mono fun _ _ h => h.imp fun _ h => rat_has h (by omega)⟩
theorem ok_mul : OkCon Tryz.prog 75 (conR2 cMul) := r2_ok (fun vs w => Go.MuLone.run_callFunc_enter Tryz.func75 rfl rfl vs w) fun q i r j t h => by
  obtain ⟨h1, rfl⟩ := h
  have h1 := Nat.ble_eq.mp h1
  exact ⟨by omega, by omega, fun C w a b ha hb => (au_rmul ha hb h1).mono fun _ _ h => h.imp fun _ h => rat_has h (by omega)⟩
theorem ok_cmp : OkCon Tryz.prog 27 (conR2 cCmp) := r2_ok (fun vs w => Go.MuLone.run_callFunc_enter Tryz.func27 rfl rfl vs w) fun q i r j t h => by
  obtain ⟨h1, rfl⟩ := h
  have h1 := Nat.ble_eq.mp h1
  exact ⟨by omega, by omega, fun C w a b ha hb => (mk_rcmp ha hb h1).mono fun _ _ h => h.imp fun _ h => by subst h; exact one_of rfl⟩
theorem ok_sign : OkCon Tryz.prog 37 (conR1 cSign) := r1_ok (fun vs w => Go.MuLone.run_callFunc_enter Tryz.func37 rfl rfl vs w) fun q i t h => by
  obtain ⟨h1, rfl⟩ := h
  have h1 := Nat.ble_eq.mp h1
  exact ⟨by omega, fun C w a ha => (mk_rsign ha.1).mono fun _ _ h => h.imp fun _ h => by subst h; exact one_of rfl⟩
end Go.Proofs.YtaaehcohmdojgaaGreatDoor

/-
  The evaluator at this program: its types, its first contracts.
-/
namespace Go.Proofs.YtaaehcohmdojgaaGreatDoor
open Go.RowKit Go.Shelf

def z1 : List (Option Value) := [none]
def rowsE : List TRow :=
  ⟨4, 1, [some (.bool false)], .bool⟩ ::
  ⟨3, 1, [some (.int .i64 0)], .int .i64⟩ ::
  ⟨2, 1, [some (.int .i64 0)], .int .i64⟩ ::
  ⟨5, 1, [some (.int .u8 0)], .int .u8⟩ ::
  ⟨9, 1, [some (.string ⟨⟨[]⟩⟩)], .other⟩ ::
  ⟨22, 1, [some (.slice none 0 0)], .slc 89 1 false⟩ ::
  ⟨24, 2, [some (.bool false), some (.slice none 0 0)], .str [0, 1] [1, 1]⟩ ::
  ⟨26, 3, [none], .str [0, 2] [2, 1]⟩ ::
  ⟨28, 6, [none, none], .str [0, 3] [3, 3]⟩ ::
  ⟨29, 24, [none, none, none, none, none, none, none, none], .arr 4 6⟩ ::
  ⟨71, 1, [some (.int .i64 0)], .int .i64⟩ ::
  ⟨43, 1, [some (.slice none 0 0)], .slc 28 6 true⟩ ::
  ⟨33, 1, [some (.slice none 0 0)], .slc 120 1 false⟩ ::
  ⟨35, 2, [some (.bool false), some (.slice none 0 0)], .str [0, 1] [1, 1]⟩ ::
  ⟨37, 3, [some (.bool false), some (.slice none 0 0), some (.slice none 0 0)], .str [0, 2] [2, 1]⟩ ::
  ⟨39, 6, [some (.bool false), some (.slice none 0 0), some (.slice none 0 0), some (.bool false), some (.slice none 0 0), some (.slice none 0 0)], .str [0, 3] [3, 3]⟩ ::
  ⟨40, 24, [some (.bool false), some (.slice none 0 0), some (.slice none 0 0), some (.bool false), some (.slice none 0 0), some (.slice none 0 0), some (.bool false), some (.slice none 0 0), some (.slice none 0 0), some (.bool false), some (.slice none 0 0), some (.slice none 0 0), some (.bool false), some (.slice none 0 0), some (.slice none 0 0), some (.bool false), some (.slice none 0 0), some (.slice none 0 0), some (.bool false), some (.slice none 0 0), some (.slice none 0 0), some (.bool false), some (.slice none 0 0), some (.slice none 0 0)], .arr 4 6⟩ ::
  ⟨46, 1, [some (.slice none 0 0)], .slc 39 6 true⟩ ::
  ⟨56, 4, [some (.bool false), some (.slice none 0 0), some (.slice none 0 0), some (.bool false)], .str [0, 3] [3, 1]⟩ ::
  []
theorem rowsE_ok : rowsE.all (TRow.ok Tryz.prog) = true := by kernel_rfl
def cons0 : List (FuncId × Con) :=
  (90, conR2 cAdd) ::
  (74, conR2 cSub) ::
  (75, conR2 cMul) ::
  (27, conR2 cCmp) ::
  (37, conR1 cSign) ::
  []
theorem cons0_ok : AllCon Tryz.prog cons0 := by
  refine ?_
  refine ⟨ok_add, ?_⟩
  refine ⟨ok_sub, ?_⟩
  refine ⟨ok_mul, ?_⟩
  refine ⟨ok_cmp, ?_⟩
  refine ⟨ok_sign, ?_⟩
  exact trivial
noncomputable def envOf (l : List (FuncId × Con)) : Env := ⟨Tryz.prog, l, rowsE.map TRow.ty, [8]⟩
theorem envOf_ok {l : List (FuncId × Con)} (h : AllCon Tryz.prog l) : (envOf l).Ok := ⟨rows_ok rowsE_ok, con_ok h, by kernel_rfl⟩
end Go.Proofs.YtaaehcohmdojgaaGreatDoor
