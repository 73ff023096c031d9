/-
  The evaluator's operations hold on the machine: all of them.
-/
import Derived.Test.YtaaehcohmdojgaaGreatDoorZau
import Derived.Laws.Tables
import Derived.Laws.AppendOwn
namespace Go.Proofs.YtaaehcohmdojgaaGreatDoor
open Go.RowKit Go.Shelf

theorem fold_set (off : Nat) : ∀ (vs : List Value) (k : Nat) (p old s : List Value), p.length = off + k → old.length = vs.length →
    (vs.zipIdx k).foldl (fun (cs : Array Value) (x : Value × Nat) => cs.setIfInBounds (off + x.2) x.1) (p ++ old ++ s).toArray = (p ++ vs ++ s).toArray
  | [], _, p, old, s, _, h => by
    have := List.length_eq_zero_iff.1 h
    subst this
    simp
  | v :: vs, k, p, [], s, _, h => by simp at h
  | v :: vs, k, p, x :: old, s, hp, h => by
    have := fold_set off vs (k + 1) (p ++ [v]) old s (by simp; omega) (by simpa using h)
    simp only [List.zipIdx_cons, List.foldl_cons]
    have e : (p ++ x :: old ++ s).toArray.setIfInBounds (off + k) v = ((p ++ [v]) ++ old ++ s).toArray := by
      rw [List.setIfInBounds_toArray]
      congr 1
      rw [← hp, List.append_assoc, List.set_append_right _ _ (Nat.le_refl _), Nat.sub_self]
      simp
    rw [e, this]
    simp
section
variable {E : Env} {C : Ctx} {w : World} {st : St} {a : Act}
theorem fill_step {p old s vs : List Value} (h : old.length = vs.length) : (vs.toArray.zipIdx.foldl (fun (cs : Array Value) (x : Value × Nat) => cs.setIfInBounds (p.length + x.2) x.1) (p ++ old ++ s).toArray) = (p ++ vs ++ s).toArray := by
  have := fold_set p.length vs 0 p old s (by simp) h
  rw [← Array.foldl_toList, Array.toList_zipIdx]
  exact this
theorem fill_rel {place place' : Nat → Option (Nat × Nat)} (hpl : ∀ i p, place i = some p → place' i = some p) : ∀ (ps : List (Nat × Option T)) (qs : List (Nat × Value)) (c : V) (cs : List Value) (v : V),
    ps.length = qs.length → (∀ (i : Nat) p q, ps[i]? = some p → qs[i]? = some q → p.1 = q.1 ∧ ∀ x, p.2 = some x → T.rel C w x q.2) → c.rel C w cs → fillV place c ps = some v → ∃ cs', Instr.fill place' cs.toArray qs = some (List.toArray cs') ∧ v.rel C w cs'
  | [], [], c, cs, v, _, _, hc, hf => by
    simp only [fillV, Option.some.injEq] at hf
    subst hf
    exact ⟨cs, rfl, hc⟩
  | [], _ :: _, _, _, _, hl, _, _, _ => by simp at hl
  | _ :: _, [], _, _, _, hl, _, _, _ => by simp at hl
  | (i, none) :: ps, q :: qs, c, cs, v, hl, hr, hc, hf => by simp [fillV] at hf
  | (i, some (.tup l)) :: ps, q :: qs, c, cs, v, hl, hr, hc, hf => by simp [fillV] at hf
  | (i, some (.one x)) :: ps, (j, u) :: qs, c, cs, v, hl, hr, hc, hf => by
    obtain ⟨h1, h2⟩ := hr 0 _ _ rfl rfl
    dsimp only at h1 h2
    subst h1
    obtain ⟨vs, h3, h4⟩ := h2 _ rfl
    simp only [fillV] at hf
    split at hf
    · rename_i o n hp
      cases hb : (V.size x == n && V.fine x)
      · rw [hb] at hf; cases hf
      · rw [hb] at hf
        simp only [cond_true] at hf
        simp only [Bool.and_eq_true, beq_iff_eq] at hb
        split at hf
        · rename_i c' hput
          have hlen := V.rel_len h3
          obtain ⟨p, old, s, rfl, h5, h6, h7⟩ := V.put_rel hc hput h3 (by omega)
          obtain ⟨cs', h8, h9⟩ := fill_rel hpl ps qs c' _ v (by simpa using hl) (fun k p q hp hq => hr (k + 1) p q (by simpa using hp) (by simpa using hq)) h7 hf
          refine ⟨cs', ?_, h9⟩
          have hcells := pack_cells (V.plain h3 hb.2)
          rw [← h4] at hcells
          simp only [Instr.fill, hpl _ _ hp]
          rw [if_neg]
          · rw [hcells, ← h5, fill_step (by omega)]
            exact h8
          · rw [hcells]
            simp
            omega
        · cases hf
    · cases hf
theorem fold_size (off : Nat) : ∀ (l : List (Value × Nat)) (cs : Array Value), (l.foldl (fun (cs : Array Value) (x : Value × Nat) => cs.setIfInBounds (off + x.2) x.1) cs).size = cs.size
  | [], _ => rfl
  | x :: l, cs => by rw [List.foldl_cons, fold_size off l]; simp
theorem fill_size {place : Nat → Option (Nat × Nat)} : ∀ (cs : Array Value) (qs : List (Nat × Value)) (r : Array Value), Instr.fill place cs qs = some r → r.size = cs.size
  | cs, [], r, h => by simp only [Instr.fill, Option.some.injEq] at h; rw [h]
  | cs, (i, v) :: qs, r, h => by
    simp only [Instr.fill] at h
    split at h
    · cases h
    · split at h
      · cases h
      · rw [fill_size _ qs r h, ← Array.foldl_toList]
        exact fold_size _ _ _
theorem places_of {P : Program} {fs : List Field} {offs szs : List Nat} (h1 : fs.map (·.offset) = offs) (h2 : fs.map (fun f => rowAt P f.type) = szs.map (fun n => some (n, !(n == 1)))) : fs.mapM (fun f => (P.info? f.type).map fun i => (f.offset, i.size)) = some (offs.zip szs) := by
  subst h1
  induction fs generalizing szs with
  | nil => cases szs <;> first | rfl | simp at h2
  | cons f fs ih =>
    cases szs with
    | nil => simp at h2
    | cons n szs =>
      simp only [List.map_cons, List.cons.injEq] at h2
      obtain ⟨i, d, h3, -, h4, -⟩ := row_parts h2.1
      simp [List.mapM_cons, h3, h4, ih h2.2]
theorem ones_rel {args : List Operand} (hs : Sees C w st a) : ∀ {xs : List V}, ones (args.map st.opd) = some xs → V.hasAll C w xs (args.map a.eval) := by
  induction args with
  | nil => intro xs h; simp only [List.map_nil, ones, Option.some.injEq] at h; subst h; rfl
  | cons x l ih =>
    intro xs h
    simp only [List.map_cons] at h
    cases hx : st.opd x with
    | none => rw [hx] at h; simp [ones] at h
    | some t =>
      rw [hx] at h
      cases t with
      | tup _ => simp [ones] at h
      | one v =>
        simp only [ones] at h
        cases hr : ones (l.map st.opd) with
        | none => rw [hr] at h; cases h
        | some r =>
          rw [hr] at h
          simp only [Option.map_some, Option.some.injEq] at h
          subst h
          exact ⟨_, _, rfl, hs.opd hx, ih hr⟩
theorem all_nth : ∀ {l : List V} {vs : List Value} {i : Nat} {x : V}, V.hasAll C w l vs → nth l i = some x → ∃ v, vs[i]? = some v ∧ x.has C w v
  | [], _, _, _, _, h => by simp [nth] at h
  | _ :: _, _, 0, _, h, hx => by
    obtain ⟨v, r, rfl, h1, _⟩ := h
    simp only [nth, Option.some.injEq] at hx
    subst hx
    exact ⟨v, rfl, h1⟩
  | _ :: _, _, i + 1, _, h, hx => by
    obtain ⟨v, r, rfl, _, h2⟩ := h
    obtain ⟨u, h3, h4⟩ := all_nth h2 hx
    exact ⟨u, by simpa using h3, h4⟩
theorem len_size {u r : U} (h : u.len = some r) : u.size = 1 := by
  unfold U.len at h
  split at h <;> first | rfl | cases h
theorem len_rel {u r : U} {v : Value} (h : u.len = some r) (hr : u.rel C w [v]) : ∃ p, ∃ n c : Nat, v = .slice p n c ∧ T.rel C w (.one [r]) (.int .i64 n) := by
  unfold U.len at h
  split at h <;> simp only [U.rel, List.cons.injEq, and_true] at hr <;> first | (cases h; done) | skip
  · cases h; exact ⟨_, _, _, hr, one_of rfl⟩
  · cases h; exact ⟨_, _, _, hr, one_of rfl⟩
  · cases h
    obtain ⟨v', he, ⟨p, c, h1, _⟩, _⟩ := hr
    subst he
    exact ⟨_, _, _, h1, one_of rfl⟩
  · cases h
    obtain ⟨v', he, ⟨p, c, h1, _⟩, _⟩ := hr
    subst he
    exact ⟨_, _, _, h1, one_of rfl⟩
  · cases h
    obtain ⟨v', he, p, c, h1, _⟩ := hr
    subst he
    exact ⟨_, _, _, h1, one_of rfl⟩
  · cases h
    obtain ⟨G, h1, _⟩ := hr
    exact ⟨_, _, _, h1, one_of rfl⟩
  · cases h
    obtain ⟨r, _, h1⟩ := hr
    exact ⟨_, _, _, h1, one_of rfl⟩
  · cases h
    obtain ⟨p, c, h1, _⟩ := hr
    exact ⟨_, _, _, h1, one_of rfl⟩
theorem lit_ix {u : U} {k : Nat} (h : litIx u = some k) {v : Value} (hr : T.rel C w (.one [u]) v) : ∃ kd, v = .int kd k := by
  unfold litIx at h
  split at h
  · simp only [Option.some.injEq] at h
    subst h
    have := u_rel hr rfl
    simp only [U.rel, List.cons.injEq, and_true] at this
    exact ⟨_, this⟩
  · cases h
theorem ptr_rel {b o : Nat} {v : Value} (h : T.rel C w (.one [.ptr b o]) v) : ∃ r, C.β b = some r ∧ v = .pointer (some ⟨r, o, none⟩) := by
  obtain ⟨r, h1, h2⟩ := u_rel h rfl
  simp only [List.cons.injEq, and_true] at h2
  exact ⟨r, h1, h2⟩
theorem anys_rel : ∀ (n : Nat) (cs : List Value), cs.length = n → V.rel C w (anys n) cs
  | 0, cs, h => by
    have := List.length_eq_zero_iff.1 h
    subst this
    rfl
  | n + 1, [], h => by simp at h
  | n + 1, v :: cs, h => ⟨[v], cs, rfl, ⟨v, rfl⟩, anys_rel n cs (by simpa using h)⟩
theorem exacts_rel : ∀ {x : V} {cs l : List Value}, x.rel C w cs → exacts x = some l → cs = l
  | [], cs, l, h, he => by
    simp only [exacts, Option.some.injEq] at he
    subst he
    exact h
  | u :: r, cs, l, h, he => by
    obtain ⟨c1, c2, rfl, h1, h2⟩ := h
    cases u <;> simp only [exacts] at he <;> first | (cases he; done) | skip
    all_goals
      cases hr : exacts r with
      | none => rw [hr] at he; cases he
      | some m =>
        rw [hr] at he
        cases he
        have := exacts_rel h2 hr
        subst this
        first
          | (obtain ⟨rfl, _⟩ := h1; rfl)
          | (simp only [U.rel] at h1; subst h1; rfl)
theorem own_rel {b n : Nat} {v : Value} (h : T.rel C w (.one [.own b n]) v) : ∃ r, C.β b = some r ∧ v = .slice (some ⟨r, 0, none⟩) n (C.κ b) := by
  obtain ⟨r, h1, h2⟩ := u_rel h rfl
  simp only [List.cons.injEq, and_true] at h2
  exact ⟨r, h1, h2⟩
theorem index_run {t : TypeId} {y : Ty} {e sz : Nat} {pl : Bool} {r o n c k : Nat} {u : U} {v : Value} (hT : TyOk E.P t y) (hkd : y.kd = .slc e sz pl) (hlt : k < n) (hu : litIx u = some k) (hv : T.rel C w (.one [u]) v) :
    (Instr.indexAt t (.slice (some ⟨r, o, none⟩) n c) v).run E.P w = .ok (.pointer (some ⟨r, o + k * sz, none⟩)) w := by
  obtain ⟨kk, h3⟩ := lit_ix hu hv
  obtain ⟨d, hd, hdk⟩ := hT.desc
  rw [hkd] at hdk
  cases d <;> first | exact hdk.elim | skip
  obtain ⟨rfl, -, i, z, hi, hsz, -⟩ := hdk
  rw [h3]
  have h9 : (0 : Int) ≤ k ∧ (k : Int) < n := ⟨Int.natCast_nonneg k, Int.ofNat_lt.2 hlt⟩
  simp [Instr.indexAt, run_underlying hd, asIntOf, size_run hi, hsz, Addr.add_mid, h9]
  intro hle
  omega
theorem rowOf_of {e sz : Nat} {u : U} {us : V} {src : Option Nat} (h : rowOf st e sz u = some (us, src)) : (isNil u = true ∧ us = [] ∧ src = none) ∨ ∃ b n B, u = .own b n ∧ st.at b = some B ∧ B.el = sz ∧ B.ty = e ∧ V.size B.us = n * sz ∧ n ≤ 100000 ∧ us = B.us ∧ src = some b := by
  unfold rowOf at h
  cases hn : isNil u
  · rw [hn] at h
    simp only [cond_false] at h
    split at h
    · rename_i b n
      split at h
      · rename_i B hB
        cases hb : (B.el == sz && B.ty == e && V.size B.us == n * sz && n.ble 100000)
        · rw [hb] at h; cases h
        · rw [hb] at h
          simp only [cond_true, Option.some.injEq, Prod.mk.injEq] at h
          simp only [Bool.and_eq_true, beq_iff_eq] at hb
          exact .inr ⟨b, n, B, rfl, hB, hb.1.1.1, hb.1.1.2, hb.1.2, Nat.le_of_ble_eq_true hb.2, h.1.symm, h.2.symm⟩
      · cases h
    · cases h
  · rw [hn] at h
    simp only [cond_true, Option.some.injEq, Prod.mk.injEq] at h
    exact .inl ⟨rfl, h.1.symm, h.2.symm⟩
theorem nil_rel {u : U} {v : Value} (h : isNil u = true) (hr : T.rel C w (.one [u]) v) : v = .slice none 0 0 := by
  unfold isNil at h
  split at h
  · have := u_rel hr rfl
    simpa [U.rel] using this
  · cases h
theorem news_rel (hs : Sees C w st a) {e sz m : Nat} {u : U} {xs : V} {tb : List Nat} {v : Value} (h : newsOf st e sz u = some (m, xs, tb)) (hv : T.rel C w (.one [u]) v) : ∃ g c news, v = .slice (some ⟨g, 0, none⟩) m c ∧ news.length = m * sz ∧ w.rangeAt g 0 news ∧ (∀ x ∈ news, plainV x = true) ∧ xs.rel C w news := by
  unfold newsOf at h
  split at h
  · rename_i b n
    split at h
    · rename_i B hB
      cases hb : (B.el == sz && B.ty == e && V.size B.us == n * sz)
      · rw [hb] at h; cases h
      · rw [hb] at h
        simp only [cond_true, Option.some.injEq, Prod.mk.injEq] at h
        obtain ⟨rfl, rfl, rfl⟩ := h
        simp only [Bool.and_eq_true, beq_iff_eq] at hb
        obtain ⟨r, hβ, rfl⟩ := own_rel hv
        obtain ⟨r', cs, js, k1, k2, k3, k4, -⟩ := hs.box b B hB
        rw [hβ] at k1
        cases k1
        refine ⟨r, _, cs, rfl, (V.rel_len k3).trans hb.2, fun j x hj => ?_, fun x hx => k4 x (by simp [hx]), k3⟩
        rw [Nat.zero_add, heap_cell k2]
        have hlt := (List.getElem?_eq_some_iff.1 hj).1
        simpa [List.getElem?_append_left hlt] using hj
    · cases h
  · rename_i l n m'
    cases hb : (m' == sz && l.all plainV)
    · rw [hb] at h; cases h
    · rw [hb] at h
      simp only [cond_true, Option.some.injEq, Prod.mk.injEq] at h
      obtain ⟨rfl, rfl, rfl⟩ := h
      simp only [Bool.and_eq_true, beq_iff_eq, List.all_eq_true] at hb
      obtain ⟨rfl, hp⟩ := hb
      obtain ⟨G, h1, h2, h3⟩ := u_rel hv rfl
      simp only [List.cons.injEq, and_true] at h1
      refine ⟨G, _, l, h1, h2, fun j x hj => by rw [Nat.zero_add]; exact (h3 j x hj).2, hp, ?_⟩
      have : ∀ l : List Value, V.rel C w (l.map U.sym) l := fun l => by
        induction l with
        | nil => rfl
        | cons x l ih => exact ⟨[x], l, rfl, rfl, ih⟩
      exact this l
  · cases h
theorem made_alloc {B : Box} {cs : List Value} {c : Nat} (h : B.us.rel C w cs) (hp : ∀ v ∈ cs, plainV v = true) (hsrc : B.src = none) (hr : B.el ≠ 0 → cs.length = c * B.el ∧ c ≤ maxLen) : Made C st w (w.alloc (.cells cs.toArray B.ty)) B w.heap.size c cs [] :=
  ⟨h, by simpa using hp, by rw [List.append_nil]; exact heap_alloc_new w _, grown_alloc w _ _, by simpa using hr, fun _ => rfl, fun b hb => (by rw [hsrc] at hb; cases hb), .inl rfl⟩
theorem zeros_mem {z : Array Value} {n : Nat} {v : Value} (h : v ∈ (Builtin.zeroCells z n).toList) : v ∈ z.toList := by
  unfold Builtin.zeroCells at h
  simp only [Array.toList_map, Array.toList_range, List.mem_map, List.mem_range] at h
  obtain ⟨i, hi, rfl⟩ := h
  have hz : 0 < z.size := Nat.pos_of_ne_zero fun e => by rw [e] at hi; simp at hi
  have hlt : i % z.size < z.size := Nat.mod_lt _ hz
  rw [getElem!_pos z _ hlt]
  exact Array.getElem_mem_toList hlt
/-- An append to no row. -/
theorem grow_nil {P : Program} {t ty e : TypeId} {i : TypeInfo} {z : Value} {size : Nat} (ht : P.underlying t = some (.slice e)) (hi : P.info? e = some i) (hz : i.zero = some z) (hs : i.size = size) (hzs : z.cells.size = size) (hby : i.bytes ≤ 1000000)
    {g m c' : Nat} {news : List Value} (hl : news.length = m * size) (hn : w.rangeAt g 0 news) (hm : m ≤ 100000) (h0 : 0 < m) :
    ∃ c js w', (Builtin.append_ #[t, t] ty #[.slice none 0 0, .slice (some ⟨g, 0, none⟩) m c']).run P w = .ok (.slice (some ⟨w.heap.size, 0, none⟩) m c) w' ∧ w'.heap[w.heap.size]? = some (.cells (List.toArray (news ++ js)) e (0, 0)) ∧
      w.grownBy w' (some w.heap.size) ∧ (news ++ js).length = c * size ∧ c ≤ maxLen ∧ ∀ v ∈ js, v ∈ z.cells.toList := by
  subst hs
  have hb : m * i.bytes ≤ 100000 * 1000000 := Nat.mul_le_mul hm hby
  have hge := grownCap_ge w m 0 e
  refine ⟨grownCap w m 0 e, (Builtin.zeroCells z.cells (grownCap w m 0 e - m)).toList, _, run_append_nil w t ty e i z ht hi hz ⟨g, 0, none⟩ m c' news hl (fun j v hj => by rw [Addr.add_mid]; exact hn j v hj) h0 (by omega) (by omega), ?_, ⟨rfl, rfl, rfl, by simp, fun k hk _ => Below.heap_alloc w.drew _ k hk⟩, ?_, grownCap_le_maxLen w m 0 e (by unfold maxLen; omega), fun v hv => zeros_mem hv⟩
  · have := heap_alloc_new w.drew (.cells (news.toArray ++ Builtin.zeroCells z.cells (grownCap w m 0 e - m)) e)
    rw [show w.drew.heap.size = w.heap.size from rfl] at this
    rw [this]
    congr 2
    apply Array.ext'
    simp
  · rw [List.length_append, hl, Array.length_toList, size_zeroCells, hzs, ← Nat.add_mul]
    congr 1
    omega
/-- An append to a row of the call's own: in its room, or in a new block. -/
theorem grow_own {P : Program} {t ty e : TypeId} {i : TypeInfo} {z : Value} {size : Nat} (ht : P.underlying t = some (.slice e)) (hi : P.info? e = some i) (hz : i.zero = some z) (hs : i.size = size) (hzs : z.cells.size = size) (hby : i.bytes ≤ 1000000) (h1 : ∀ v, plainV v = true → v.oneCell' = true)
    {r n c : Nat} {cs js : List Value} (hr : w.heap[r]? = some (.cells (List.toArray (cs ++ js)) e (0, 0))) (hcs : cs.length = n * size) (hc : (cs ++ js).length = c * size) (hcm : c ≤ maxLen)
    {g m c' : Nat} {news : List Value} (hl : news.length = m * size) (hn : w.rangeAt g 0 news) (hp : ∀ v ∈ news, plainV v = true) (hm : m ≤ 100000) (hnm : n ≤ 100000) :
    ∃ r' c2 js' w', (Builtin.append_ #[t, t] ty #[.slice (some ⟨r, 0, none⟩) n c, .slice (some ⟨g, 0, none⟩) m c']).run P w = .ok (.slice (some ⟨r', 0, none⟩) (n + m) c2) w' ∧ w'.heap[r']? = some (.cells (List.toArray (cs ++ news ++ js')) e (0, 0)) ∧
      w.grownBy w' (some r') ∧ (cs ++ news ++ js').length = c2 * size ∧ c2 ≤ maxLen ∧ (r' = w.heap.size ∨ r' = r) ∧ ∀ v ∈ js', v ∈ js ∨ v ∈ z.cells.toList := by
  subst hs
  by_cases hroom : n + m ≤ c
  · have hfit : n * i.size + news.length ≤ (cs ++ js).length := by rw [hl, hc, ← Nat.add_mul]; exact Nat.mul_le_mul_right _ hroom
    have hrun := run_append_room (P := P) w t ty e i ht hi r n c _ hr ⟨g, 0, none⟩ m c' news hl (fun j v hj => by rw [Addr.add_mid]; exact hn j v hj) (fun v hv => h1 v (hp v hv)) hroom (by simpa using hfit)
    have e1 : (cs ++ js).take (n * i.size) = cs := by rw [← hcs]; exact List.take_left
    have e2 : (cs ++ js).drop (n * i.size + news.length) = js.drop news.length := by rw [← hcs, List.drop_append]; simp
    simp only [e1, e2] at hrun
    refine ⟨r, c, js.drop news.length, _, hrun, setRow_heap w r _ _ e (0, 0) hr, ⟨rfl, rfl, rfl, by simp, fun k _ hk => setRow_other w r k _ (fun e => hk (by rw [e]))⟩, ?_, hcm, .inr rfl, fun v hv => .inl (List.mem_of_mem_drop hv)⟩
    simp only [List.length_append, List.length_drop] at hc hfit ⊢
    omega
  · have hb : (n + m) * i.bytes ≤ 200000 * 1000000 := Nat.mul_le_mul (by omega) hby
    have hge := grownCap_ge w (n + m) c e
    have hrun := run_append_grow (P := P) w t ty e i z ht hi hz ⟨r, 0, none⟩ n c cs hcs (fun j v hj => by
      rw [Addr.add_mid, heap_cell hr]
      have hlt := (List.getElem?_eq_some_iff.1 hj).1
      simpa [List.getElem?_append_left hlt] using hj) ⟨g, 0, none⟩ m c' news hl (fun j v hj => by rw [Addr.add_mid]; exact hn j v hj) (by omega) (by omega) (growslice_fits (by omega) (by omega))
    refine ⟨w.heap.size, _, (Builtin.zeroCells z.cells (grownCap w (n + m) c e - (n + m))).toList, _, hrun, ?_, ⟨rfl, rfl, rfl, by simp, fun k hk _ => Below.heap_alloc w.drew _ k hk⟩, ?_, grownCap_le_maxLen w (n + m) c e (by unfold maxLen; omega), .inl rfl, fun v hv => .inr (zeros_mem hv)⟩
    · have := heap_alloc_new w.drew (.cells (cs.toArray ++ news.toArray ++ Builtin.zeroCells z.cells (grownCap w (n + m) c e - (n + m))) e)
      rw [show w.drew.heap.size = w.heap.size from rfl] at this
      rw [this]
      congr 2
      apply Array.ext'
      simp
    · rw [List.length_append, List.length_append, hcs, hl, Array.length_toList, size_zeroCells, hzs, ← Nat.add_mul, ← Nat.add_mul]
      congr 1
      omega
theorem takeR_some : ∀ {l : List Rat} {n : Nat} {m : List Rat}, takeR l n = some m → m.length = n ∧ ∀ i, i < n → m[i]? = l[i]?
  | _, 0, m, h => by simp only [takeR, Option.some.injEq] at h; subst h; exact ⟨rfl, fun i hi => absurd hi (by omega)⟩
  | [], n + 1, m, h => by simp [takeR] at h
  | q :: l, n + 1, m, h => by
    simp only [takeR] at h
    cases hr : takeR l n with
    | none => rw [hr] at h; cases h
    | some r =>
      rw [hr] at h
      cases h
      obtain ⟨h1, h2⟩ := takeR_some hr
      refine ⟨by simp [h1], fun i hi => ?_⟩
      cases i with
      | zero => rfl
      | succ i => simpa using h2 i (by omega)
theorem dropR_some : ∀ {l : List Rat} {n : Nat} {m : List Rat}, dropR l n = some m → ∀ i, m[i]? = l[n + i]?
  | l, 0, m, h => by simp only [dropR, Option.some.injEq] at h; subst h; intro i; rw [Nat.zero_add]
  | [], n + 1, m, h => by simp [dropR] at h
  | q :: l, n + 1, m, h => by
    intro i
    rw [dropR_some (l := l) (by simpa [dropR] using h) i, show n + 1 + i = (n + i) + 1 by omega, List.getElem?_cons_succ]
theorem grabR_some {l m : List Rat} {o n : Nat} (h : grabR l o n = some m) : m.length = n ∧ ∀ i, i < n → m[i]? = l[o + i]? := by
  unfold grabR at h
  cases hd : dropR l o with
  | none => rw [hd] at h; cases h
  | some x =>
    rw [hd] at h
    obtain ⟨h1, h2⟩ := takeR_some h
    exact ⟨h1, fun i hi => (h2 i hi).trans (dropR_some hd i)⟩
theorem frU_rel {d k : Nat} {q : Rat} {a b c : Value} (hk : k ≤ LimK) (h : FrP d k w (.agg #[a, b, c]) q) : U.rel C w (frU d k q) [a, b, c] := by
  match d, h with
  | 0, h => exact ⟨a, b, c, rfl, h, hk⟩
  | 1, h => exact ⟨a, b, c, rfl, h.1, h.2⟩
  | _ + 2, h => exact ⟨a, b, c, rfl, h⟩
theorem unFr_rel {S : Nat → Prop} {G d k : Nat} (hk : k ≤ LimK) : ∀ (m : List Rat) (o : Nat), FrAt S w G o d m k → ∃ cs, cs.length = 3 * m.length ∧ w.rangeAt G o cs ∧ V.rel C w (unFr d k m) cs
  | [], o, _ => ⟨[], rfl, fun j v hj => by simp at hj, rfl⟩
  | q :: m, o, h => by
    obtain ⟨-, a, b, c, h1, h2, h3, h4⟩ := h 0 q rfl
    obtain ⟨cs, h5, h6, h7⟩ := unFr_rel hk m (o + 3) (fun i x hx => by
      have := h (i + 1) x (by simpa using hx)
      rwa [show o + 3 * (i + 1) = o + 3 + 3 * i by omega] at this)
    refine ⟨a :: b :: c :: cs, by simp [h5]; omega, fun j v hj => ?_, [a, b, c], cs, rfl, frU_rel hk h4, h7⟩
    match j, hj with
    | 0, hj => simp at hj; subst hj; simpa using h1
    | 1, hj => simp at hj; subst hj; simpa using h2
    | 2, hj => simp at hj; subst hj; simpa using h3
    | j + 3, hj => have := h6 j v (by simpa using hj); rwa [show o + (j + 3) = o + 3 + j by omega]
theorem frsOf_rel {d : Nat} : ∀ {x : V} {cs : List Value} {l : List Rat} {k : Nat}, x.rel C w cs → frsOf d x = some (l, k) → k ≤ LimK → cs.length = 3 * l.length ∧ ∀ (i : Nat) (q : Rat), l[i]? = some q → ∃ a b c, cs[3 * i]? = some a ∧ cs[3 * i + 1]? = some b ∧ cs[3 * i + 2]? = some c ∧ FrP d k w (.agg #[a, b, c]) q
  | [], cs, l, k, h, he, _ => by
    simp only [frsOf, Option.some.injEq, Prod.mk.injEq] at he
    obtain ⟨rfl, rfl⟩ := he
    simp only [V.rel] at h
    subst h
    exact ⟨rfl, fun i q hq => by simp at hq⟩
  | u :: r, cs, l, k, h, he, hk => by
    simp only [frsOf] at he
    split at he
    · rename_i d' q j hu
      cases hd : d' == d
      · rw [hd] at he; cases he
      · rw [hd] at he
        simp only [beq_iff_eq] at hd
        subst hd
        cases hr : frsOf d' r with
        | none => rw [hr] at he; cases he
        | some p =>
          rw [hr] at he
          simp only [cond_true, Option.map_some, Option.some.injEq, Prod.mk.injEq] at he
          obtain ⟨rfl, rfl⟩ := he
          obtain ⟨c1, c2, rfl, h1, h2⟩ := h
          obtain ⟨l2, k2⟩ := p
          dsimp only at hk ⊢
          have hj : j ≤ j.max k2 := Nat.le_max_left _ _
          have hk2 : k2 ≤ j.max k2 := Nat.le_max_right _ _
          obtain ⟨h3, h4⟩ := frsOf_rel h2 hr (by omega)
          have key : ∃ a b c, c1 = [a, b, c] ∧ FrP d' j w (.agg #[a, b, c]) q := by
            unfold frKind at hu
            split at hu <;> first | (cases hu; done) | skip
            · cases hu; obtain ⟨a, b, c, rfl, h5, -⟩ := h1; exact ⟨a, b, c, rfl, h5⟩
            · cases hu; obtain ⟨a, b, c, rfl, h5, h6⟩ := h1; exact ⟨a, b, c, rfl, h5, h6⟩
            · cases hu; obtain ⟨a, b, c, rfl, h5⟩ := h1; exact ⟨a, b, c, rfl, h5⟩
            · cases hu; obtain ⟨rfl, h5⟩ := h1; exact ⟨_, _, _, rfl, h5⟩
          have up : ∀ {i : Nat} {v : Value} {x : Rat}, i ≤ j.max k2 → FrP d' i w v x → FrP d' (j.max k2) w v x := fun {i v x} hi hf => by
            match d', hf with
            | 0, hf => exact ⟨hf.1, hf.2.mono hi⟩
            | 1, hf => exact ⟨hf.1, hf.2.mono hi⟩
            | _ + 2, hf => exact RS.mono hf hi
          obtain ⟨a, b, c, rfl, h5⟩ := key
          refine ⟨by simp [h3]; omega, fun i x hx => ?_⟩
          cases i with
          | zero =>
            simp only [List.getElem?_cons_zero, Option.some.injEq] at hx
            subst hx
            exact ⟨a, b, c, rfl, rfl, rfl, up hj h5⟩
          | succ i =>
            obtain ⟨a', b', c', k1, k2', k3, k4⟩ := h4 i x (by simpa using hx)
            refine ⟨a', b', c', ?_, ?_, ?_, up hk2 k4⟩
            · rw [show 3 * (i + 1) = 3 * i + 3 by omega]; simpa using k1
            · rw [show 3 * (i + 1) + 1 = 3 * i + 1 + 3 by omega]; simpa using k2'
            · rw [show 3 * (i + 1) + 2 = 3 * i + 2 + 3 by omega]; simpa using k3
    · cases he
/-- A row that is handed on can be read, but for the context in which it is the call's own. -/
theorem frzB_rel {B : Box} {n r c : Nat} {ex : Bool} {u : U} {cs js : List Value} (h : frzB B n ex = some u) (hs : ¬ C.S r) (hr : w.heap[r]? = some (.cells (List.toArray (cs ++ js)) B.ty (0, 0))) (hus : B.us.rel C w cs) (hroom : B.el ≠ 0 → (cs ++ js).length = c * B.el) (hfull : B.full = true → js = []) : V.has C w [u] (.slice (some ⟨r, 0, none⟩) n c) := by
  have hcell : ∀ i v, cs[i]? = some v → w.cell? ⟨r, i, none⟩ = some v := fun i v hi => by
    rw [heap_cell hr]
    have hlt := (List.getElem?_eq_some_iff.1 hi).1
    simpa [List.getElem?_append_left hlt] using hi
  unfold frzB at h
  cases hb : (!(B.el == 0) && V.size B.us == n * B.el)
  · rw [hb] at h; cases h
  · rw [hb] at h
    simp only [Bool.and_eq_true, Bool.not_eq_true', beq_eq_false_iff_ne, beq_iff_eq] at hb
    obtain ⟨h0, hsz⟩ := hb
    have hrm := hroom h0
    have hlen : cs.length = n * B.el := (V.rel_len hus).trans hsz
    have hnc : n ≤ c := by
      have h1 : n * B.el ≤ c * B.el := by rw [← hrm, ← hlen, List.length_append]; omega
      exact Nat.le_of_mul_le_mul_right h1 (Nat.pos_of_ne_zero h0)
    have he : ∀ u, frzE B n = some u → V.has C w [u] (.slice (some ⟨r, 0, none⟩) n c) := fun u hu => by
      unfold frzE at hu
      cases hl : exacts B.us with
      | none => rw [hl] at hu; cases hu
      | some l =>
        rw [hl] at hu
        simp only [Option.bind_some] at hu
        cases hb : (B.full && (l.length == n * B.el))
        · rw [hb] at hu; cases hu
        · rw [hb] at hu
          cases hu
          simp only [Bool.and_eq_true, beq_iff_eq] at hb
          have := exacts_rel hus hl
          subst this
          have hj := hfull hb.1
          subst hj
          rw [List.append_nil, hlen] at hrm
          have := Nat.eq_of_mul_eq_mul_right (Nat.pos_of_ne_zero h0) hrm
          subst this
          exact ⟨[_], ⟨[_], [], rfl, ⟨r, rfl, hb.2, fun i v hi => ⟨hs, hcell i v hi⟩⟩, rfl⟩, rfl⟩
    cases ex with
    | true => exact he u h
    | false =>
      simp only [cond_true] at h
      cases hf : frzF B n with
      | none => rw [hf] at h; exact he u h
      | some x =>
        rw [hf] at h
        cases h
        unfold frzF at hf
        cases hd : kindV B.us with
        | none => rw [hd] at hf; cases hf
        | some d =>
          rw [hd] at hf
          simp only [Option.bind_some] at hf
          cases hl : frsOf d B.us with
          | none => rw [hl] at hf; cases hf
          | some p =>
            obtain ⟨l, k⟩ := p
            rw [hl] at hf
            simp only [Option.bind_some] at hf
            cases hb : (k.ble LimK && (l.length == n * (B.el / 3)))
            · rw [hb] at hf; cases hf
            · rw [hb] at hf
              cases hf
              simp only [Bool.and_eq_true, beq_iff_eq] at hb
              have hk := Nat.le_of_ble_eq_true hb.1
              obtain ⟨-, h4⟩ := frsOf_rel hus hl hk
              refine ⟨[_], ⟨[_], [], rfl, ⟨_, c, rfl, hb.2, hnc, hk, fun _ => ⟨r, 0, rfl, fun i q hq => ?_⟩⟩, rfl⟩, rfl⟩
              obtain ⟨a, b, c', k1, k2, k3, k4⟩ := h4 i q hq
              exact ⟨hs, a, b, c', by rw [Nat.zero_add]; exact hcell _ _ k1, by rw [Nat.zero_add]; exact hcell _ _ k2, by rw [Nat.zero_add]; exact hcell _ _ k3, k4⟩
theorem look_of_at {b : Nat} {B : Box} (h : st.at b = some B) : look st.boxes b = some B ∧ st.live b = true := by
  unfold St.at at h
  cases hl : st.live b
  · rw [hl] at h; cases h
  · rw [hl] at h; exact ⟨h, rfl⟩
/-- The arguments, the call's own rows among them as rows that stay. -/
theorem frzs_rel (hs : Sees C w st a) {ex : Bool} : ∀ {xs : List V} {vs : List Value} {ys : List V} {fz : List Nat} (C' : Ctx), V.hasAll C w xs vs → frzs st ex xs = some (ys, fz) → Ctx.le w C C' → (∀ b ∈ fz, ∀ r, C.β b = some r → ¬ C'.S r) → V.hasAll C' w ys vs
  | [], vs, ys, fz, C', h, he, _, _ => by
    simp only [frzs, Option.some.injEq, Prod.mk.injEq] at he
    obtain ⟨rfl, rfl⟩ := he
    exact h
  | x :: xs, vs, ys, fz, C', h, he, hle, hno => by
    obtain ⟨v, r, rfl, h1, h2⟩ := h
    have gen : ∀ {p : List V × List Nat}, frzs st ex xs = some p → (∀ b ∈ p.2, ∀ r, C.β b = some r → ¬ C'.S r) → V.hasAll C' w p.1 r := fun {p} hp hno' => frzs_rel hs C' h2 (ys := p.1) (fz := p.2) hp hle hno'
    unfold frzs at he
    split at he
    · rename_i heq; cases heq
    · rename_i b n r' heq
      cases heq
      split at he
      · rename_i B hB
        split at he
        · rename_i u p hu hp
          cases he
          obtain ⟨ro, hβ, rfl⟩ := own_rel h1
          obtain ⟨r2, cs, js, k1, k2, k3, -, k5, k6⟩ := hs.box b B hB
          rw [hβ] at k1
          cases k1
          have hS : ¬ C'.S ro := hno b (by simp) ro hβ
          have h3 := frzB_rel (C := C') hu hS k2 (V.rel_le k3 hle) (fun h => (k5 h).1) k6
          exact ⟨_, r, rfl, h3, gen hp (fun b' hb' => hno b' (by simp [hb']))⟩
        · cases he
      · cases he
    · rename_i v' r' _ heq
      cases heq
      cases hp : frzs st ex xs with
      | none => rw [hp] at he; cases he
      | some p =>
        rw [hp] at he
        cases he
        exact ⟨v, r, rfl, V.has_le h1 hle, gen hp hno⟩
theorem opEval_does (hE : ∀ t y, look E.ty t = some y → TyOk E.P t y) (hs : Sees C w st a) (_hlt : ∀ r, C.S r → r < w.heap.size) {o : Oper} {e : Eff} (h : opEval E st o.op = some e) : e.does E.P C st a w o := by
  cases ho : o.op <;> rw [ho] at h <;> simp only [opEval] at h <;> first | (cases h; done) | skip
  case move x =>
    cases hx : st.opd x with
    | none => rw [hx] at h; cases h
    | some t =>
      rw [hx] at h
      cases h
      exact ⟨a.eval x, w, by simp [execOp, ho], Bel.refl w, hs.opd hx⟩
  case assign x =>
    cases hx : st.opd x with
    | none => rw [hx] at h; cases h
    | some t =>
      rw [hx] at h
      cases h
      exact ⟨a.eval x, w, by simp [execOp, ho], Bel.refl w, hs.opd hx⟩
  case pick c x y =>
    split at h
    · rename_i hc
      have hcv := u_rel (hs.opd hc) rfl
      simp only [U.rel, List.cons.injEq, and_true] at hcv
      cases hx : st.opd x with
      | none => rw [hx] at h; cases h
      | some t =>
        rw [hx] at h
        cases h
        exact ⟨a.eval x, w, by simp [execOp, ho, hcv, asBool], Bel.refl w, hs.opd hx⟩
    · rename_i hc
      have hcv := u_rel (hs.opd hc) rfl
      simp only [U.rel, List.cons.injEq, and_true] at hcv
      cases hx : st.opd y with
      | none => rw [hx] at h; cases h
      | some t =>
        rw [hx] at h
        cases h
        exact ⟨a.eval y, w, by simp [execOp, ho, hcv, asBool], Bel.refl w, hs.opd hx⟩
    · cases h
  case alloc t =>
    cases hy : look E.ty t with
    | none => rw [hy] at h; cases h
    | some y =>
      rw [hy] at h
      cases h
      have hT := hE t y hy
      obtain ⟨i, hi, -, z, hz, -, hr⟩ := hT.info
      refine ⟨w.heap.size, 0, z.cells.toList, [], _, ?_, made_alloc (hr C w) (V.plain (hr C w) hT.fine) rfl (fun h => absurd rfl h)⟩
      simp [execOp, ho, Instr.alloc, zeroValue, typeInfo, hi, hz, newVar, newRow, newVal]
  case box t x =>
    split at h
    · rename_i v y hv hy
      cases hb : (V.size v == y.size && V.fine v)
      · rw [hb] at h; cases h
      · rw [hb] at h
        cases h
        simp only [Bool.and_eq_true] at hb
        obtain ⟨cs, h1, h2⟩ := hs.opd hv
        have hp := V.plain h1 hb.2
        refine ⟨w.heap.size, 0, cs, [], _, ?_, made_alloc h1 hp rfl (fun h => absurd rfl h)⟩
        simp [execOp, ho, Instr.box, newVar, newRow, h2, pack_cells hp, newVal]
    · cases h
  case build t parts =>
    split at h
    · rename_i y hy
      have hT := hE t y hy
      cases hb : y.kd.row
      · rw [hb] at h; cases h
      · rw [hb] at h
        simp only [cond_true] at h
        cases hf : fillV y.kd.place y.zero (parts.toList.map fun p => (p.1, st.opd p.2)) with
        | none => rw [hf] at h; cases h
        | some v =>
          rw [hf] at h
          cases h
          obtain ⟨i, hi, hsz, z, hz, hzs, hr⟩ := hT.info
          obtain ⟨d, hd, hk⟩ := hT.desc
          have hrow := hT.row
          rw [hb] at hrow
          have hfill : ∀ (place' : Nat → Option (Nat × Nat)), (∀ i p, y.kd.place i = some p → place' i = some p) → ∃ cs', Instr.fill place' z.cells (parts.map fun (i, x) => (i, a.eval x)).toList = some (List.toArray cs') ∧ v.rel C w cs' := fun place' hpl => by
            have := fill_rel (C := C) (w := w) hpl (parts.toList.map fun p => (p.1, st.opd p.2)) ((parts.map fun (i, x) => (i, a.eval x)).toList) y.zero z.cells.toList v (by simp) (fun i p q hp hq => by
              rw [List.getElem?_map] at hp
              simp only [Array.toList_map, List.getElem?_map] at hq
              cases hx : parts.toList[i]? with
              | none => rw [hx] at hp; cases hp
              | some r =>
                rw [hx] at hp hq
                simp only [Option.map_some, Option.some.injEq] at hp hq
                subst hp hq
                exact ⟨rfl, fun x hx => hs.opd hx⟩) (hr C w) hf
            simpa using this
          have hfin : ∀ cs', E.P.built t (parts.map fun (i, x) => (i, a.eval x)).toList = some (List.toArray cs') → v.rel C w cs' → Eff.does E.P C st a w o (.val (.one v)) := fun cs' hbt hrel => by
            refine ⟨.agg cs'.toArray, w, ?_, Bel.refl w, cs', hrel, ?_⟩
            · exact run_v (s := Instr.build t (parts.map fun (i, x) => (i, a.eval x))) (by simp only [execOp, ho]) (run_build w t _ _ hbt)
            · have hl : cs'.length = y.size := by
                obtain ⟨cs'', h1, h2⟩ := hfill y.kd.place (fun _ _ h => h)
                rw [V.rel_len hrel, ← V.rel_len h2]
                have h3 := fill_size z.cells (parts.map fun (i, x) => (i, a.eval x)).toList _ h1
                simp at h3
                omega
              rw [pack_agg]
              rw [hl]
              intro he
              rw [he] at hrow
              cases hrow
          cases hkd : y.kd <;> rw [hkd] at hk hfill <;> cases d <;> first | exact hk.elim | (rw [hkd] at hb; cases hb; done) | skip
          · rename_i offs szs fs
            have hm : fs.toList.mapM (fun f => (E.P.info? f.type).map fun i => (f.offset, i.size)) = some (offs.zip szs) := places_of hk.1 hk.2.1
            obtain ⟨cs', h1, h2⟩ := hfill ((offs.zip szs).toArray[·]?) (fun i p hp => by
              obtain ⟨h3, h4⟩ := zip_get (o := p.1) (n := p.2) hp
              rw [List.getElem?_toArray, List.getElem?_zip_eq_some]
              exact ⟨h3, h4⟩)
            refine hfin cs' ?_ h2
            simp only [Program.built, hi, hd, hz, hm]
            exact h1
          · rename_i n sz m e
            obtain ⟨hn, he⟩ := hk
            obtain ⟨ie, de, h3, h4, h5, -⟩ := row_parts he
            obtain ⟨cs', h1, h2⟩ := hfill (fun i => some (i * ie.size, ie.size)) (fun i p hp => by rw [h5]; exact hp)
            refine hfin cs' ?_ h2
            simp only [Program.built, hi, hd, hz, h3]
            exact h1
    · cases h
  case buildSlice t n parts =>
    split at h
    · rename_i y hy
      split at h
      · rename_i e' sz pl hkd
        cases hb : (n * sz).ble 16777216
        · rw [hb] at h; cases h
        · rw [hb] at h
          simp only [cond_true] at h
          split at h
          · rename_i c hf
            cases hfc : (V.fine c && V.size c == n * sz)
            · rw [hfc] at h; cases h
            · rw [hfc] at h
              cases h
              simp only [Bool.and_eq_true, beq_iff_eq] at hfc
              obtain ⟨d, hd, hk⟩ := (hE t y hy).desc
              rw [hkd] at hk
              cases d <;> first | exact hk.elim | skip
              rename_i el
              obtain ⟨rfl, h0, i, z, hi, hsz, hz, hzs, -, -⟩ := hk
              obtain ⟨cs', h1, h2⟩ := fill_rel (C := C) (w := w) (place' := fun i => some (i * sz, sz)) (fun _ _ h => h) (parts.toList.map fun p => (p.1, st.opd p.2)) ((parts.map fun (i, x) => (i, a.eval x)).toList) (anys (n * sz)) ((List.range (n * sz)).map fun j => (if n * sz = 0 then #[] else z.cells)[j % (if n * sz = 0 then #[] else z.cells).size]!) c (by simp) (fun i p q hp hq => by
                rw [List.getElem?_map] at hp
                simp only [Array.toList_map, List.getElem?_map] at hq
                cases hx : parts.toList[i]? with
                | none => rw [hx] at hp; cases hp
                | some r =>
                  rw [hx] at hp hq
                  simp only [Option.map_some, Option.some.injEq] at hp hq
                  subst hp hq
                  exact ⟨rfl, fun x hx => hs.opd hx⟩) (anys_rel _ _ (by simp)) hf
              have hle := Nat.le_of_ble_eq_true hb
              have hlen : cs'.length = n * sz := (V.rel_len h2).trans hfc.2
              have hn : n ≤ maxLen := by
                have : n * 1 ≤ n * sz := Nat.mul_le_mul_left n h0
                unfold maxLen
                omega
              refine ⟨w.heap.size, n, cs', [], _, ?_, made_alloc (B := ⟨el, c, sz, none, true⟩) h2 (V.plain h2 hfc.1) rfl (fun _ => ⟨hlen, hn⟩)⟩
              have hq : V.size c / sz = n := by rw [hfc.2]; exact Nat.mul_div_cancel n h0
              have hne : sz ≠ 0 := by omega
              simp only [newVal, hne, if_false, hq]
              refine run_v (s := Instr.buildSlice t n (parts.map fun (i, x) => (i, a.eval x))) (by simp only [execOp, ho]) ?_
              have h1' : Instr.fill (fun i => some (i * sz, sz)) ((Array.range (n * sz)).map fun j => (if n * sz = 0 then #[] else z.cells)[j % (if n * sz = 0 then #[] else z.cells).size]!) (parts.map fun (i, x) => (i, a.eval x)).toList = some cs'.toArray := by
                rw [← h1]
                congr 1
                rw [← Array.toList_inj]
                simp
              simp only [Instr.buildSlice, Sem.run_bind, run_underlying hd, Result.andThen_ok, size_run hi, hsz]
              rw [if_neg (by omega)]
              by_cases hz0 : n * sz = 0
              · simp only [hz0, if_true] at h1' ⊢
                simp only [Sem.run_bind, Sem.run_pure, Result.andThen_ok, h1', newRow, run_newObj_alloc]
              · simp only [hz0, if_false] at h1' ⊢
                have hzr : (zeroValue el).run E.P w = .ok z w := by simp [zeroValue, typeInfo, hi, hz]
                simp only [Sem.run_bind, Sem.run_pure, Result.andThen_ok, hzr, h1', newRow, run_newObj_alloc]
          · cases h
      · cases h
    · cases h
  case load t x =>
    split at h
    · rename_i b off y hx hy
      split at h
      · rename_i B hB
        cases hg : V.grab B.us off y.size with
        | none => rw [hg] at h; cases h
        | some v =>
          rw [hg] at h
          cases h
          obtain ⟨r, h1, h2⟩ := ptr_rel (hs.opd hx)
          obtain ⟨r', cs, js, h3, h4, h5, -⟩ := hs.box b B hB
          rw [h1] at h3
          cases h3
          obtain ⟨h6, h7⟩ := V.grab_rel h5 hg
          exact ⟨_, w, run_v (s := Instr.loadAt t (a.eval x)) (by simp only [execOp, ho]) (by rw [h2]; exact load_mid (hE t y hy) h4 h6), Bel.refl w, _, h7, rfl⟩
      · cases h
    · rename_i d l k off y hx hy
      cases hb : (off == 3 * (off / 3) && y.size == 3 * (y.size / 3) && !(y.size == 0))
      · rw [hb] at h; cases h
      · rw [hb] at h
        simp only [cond_true] at h
        simp only [Bool.and_eq_true, beq_iff_eq, Bool.not_eq_true', beq_eq_false_iff_ne] at hb
        obtain ⟨⟨hb1, hb2⟩, hb3⟩ := hb
        cases hg : grabR l (off / 3) (y.size / 3) with
        | none => rw [hg] at h; cases h
        | some m =>
          rw [hg] at h
          cases h
          obtain ⟨G, o0, h1, hk, h2⟩ := u_rel (hs.opd hx) rfl
          simp only [List.cons.injEq, and_true] at h1
          obtain ⟨h3, h4⟩ := grabR_some hg
          obtain ⟨cs, h5, h6, h7⟩ := unFr_rel (S := C.S) (G := G) hk m (o0 + off) (fun i q hq => by
            have hi := (List.getElem?_eq_some_iff.1 hq).1
            have := h2 (off / 3 + i) q (by rw [← h4 i (by omega)]; exact hq)
            rwa [show o0 + 3 * (off / 3 + i) = o0 + off + 3 * i by omega] at this)
          obtain ⟨d', hd, hdk⟩ := (hE t y hy).desc
          have hr := (hE t y hy).row
          have h1' : y.size ≠ 1 := by omega
          have hrow : y.kd.row = true := by rw [hr]; simp [h1']
          have hcl : cs.length = y.size := by omega
          have hl := run_loadVar_mid (P := E.P) w G (o0 + off) t _ d' h6 hd (by rw [hdk.isRow]; exact hrow) (by rw [hcl]; exact info_size (hE t y hy))
          refine ⟨.agg cs.toArray, w, run_v (s := Instr.loadAt t (a.eval x)) (by simp only [execOp, ho]) ?_, Bel.refl w, cs, h7, (pack_agg (by omega)).symm⟩
          rw [h1]
          simp only [Instr.loadAt, Instr.sureAddr, Sem.run_bind, Sem.run_pure, Result.andThen_ok, hl]
    · cases h
  case store t x y =>
    split at h
    · rename_i b off v z hx hv hz
      cases hb : (V.size v == z.size && V.fine v)
      · rw [hb] at h; cases h
      · rw [hb] at h
        simp only [cond_true] at h
        simp only [Bool.and_eq_true, beq_iff_eq] at hb
        split at h
        · rename_i B hB
          cases hp : V.put B.us off z.size v with
          | none => rw [hp] at h; cases h
          | some c =>
            rw [hp] at h
            cases h
            obtain ⟨r, h1, h2⟩ := ptr_rel (hs.opd hx)
            obtain ⟨r', cs, js, h3, h4, h5, -⟩ := hs.box b B hB
            rw [h1] at h3
            cases h3
            obtain ⟨vs, h6, h7⟩ := hs.opd hv
            have hlen := V.rel_len h6
            obtain ⟨p, old, s, rfl, h8, h9, h10⟩ := V.put_rel h5 hp h6 (by omega)
            have hpl := V.plain h6 hb.2
            have h4' : w.heap[r]? = some (.cells (List.toArray (p ++ old ++ (s ++ js))) B.ty (0, 0)) := by rw [h4, List.append_assoc (p ++ old)]
            refine ⟨B, r, p, old, s, js, vs, hB, h1, h4', h8, by omega, h10, hpl, ?_, ?_⟩
            · rw [← V.rel_len h10, ← V.rel_len h5]; simp; omega
            have := store_run (hE t z hz) (P := E.P) h4' (by omega) (vs := vs) (by omega) hpl
            rw [h8] at this
            simp only [execOp, ho, h2, h7, Sem.run_bind, this, Result.andThen_ok, Sem.run_pure]
        · cases h
    · cases h
  case binOp op t x y yt =>
    split at h
    · rename_i u v z hx hy hz
      split at h
      · rename_i l p m q hu hv
        cases hr : binV z.kd op p q with
        | none => rw [hr] at h; cases h
        | some r =>
          rw [hr] at h
          cases h
          have e1 := val_of hu (hs.opd hx)
          have e2 := val_of hv (hs.opd hy)
          obtain ⟨d, hd, hk⟩ := (hE t z hz).desc
          exact ⟨r, w, run_v (s := (do eqGuard op t x y (a.eval x) (a.eval y); binOp op t (a.eval x) (a.eval y) : Sem Value)) (by simp only [execOp, ho]) (by rw [e1, e2]; exact binV_run hd hk hr x y w), Bel.refl w, mk_rel⟩
      · cases h
    · cases h
  case unOp op t x =>
    split at h
    · rename_i u hx
      split at h
      · rename_i l p hu
        cases hr : unV op p with
        | none => rw [hr] at h; cases h
        | some r =>
          rw [hr] at h
          cases h
          have e1 := val_of hu (hs.opd hx)
          exact ⟨r, w, run_v (s := Op.unary op (a.eval x)) (by simp only [execOp, ho]) (by rw [e1]; exact unV_run hr w), Bel.refl w, mk_rel⟩
      · cases h
    · cases h
  case convert sr ds x =>
    split at h
    · rename_i u y z hx hy hz
      split at h
      · rename_i l k0 n k hu hkd
        cases h
        have e1 := val_of hu (hs.opd hx)
        obtain ⟨d, hd, hk⟩ := (hE ds z hz).desc
        obtain ⟨d', hd', hk'⟩ := (hE sr y hy).desc
        rw [hkd] at hk
        cases d <;> first | exact hk.elim | skip
        cases hk
        exact ⟨_, w, run_v (s := convert sr ds (a.eval x)) (by simp only [execOp, ho]) (by rw [e1]; simp [convert, run_underlying hd, run_underlying hd', Conv.intToInt]), Bel.refl w, mk_rel⟩
      · cases h
    · cases h
  case fieldAddr t x f =>
    split at h
    · rename_i b off y hx hy
      split at h
      · rename_i offs szs hkd
        cases hz : zipN offs szs f with
        | none => rw [hz] at h; cases h
        | some p =>
          rw [hz] at h
          cases h
          obtain ⟨r, h1, h2⟩ := ptr_rel (hs.opd hx)
          obtain ⟨d, hd, hk⟩ := (hE t y hy).desc
          rw [hkd] at hk
          cases d <;> first | exact hk.elim | skip
          rename_i fs
          obtain ⟨fd, h3, h4, h5, h6⟩ := field_of (o := p.1) (n := p.2) hk hz
          obtain ⟨i, d2, h7, -, h8, -⟩ := row_parts h5
          have hrun : (Instr.fieldAt t (a.eval x) f).run E.P w = .ok (.pointer (some ⟨r, off + p.1, none⟩)) w := by
            rw [h2]
            have hne : i.size ≠ 0 := by omega
            simp [Instr.fieldAt, run_underlying hd, h3, Instr.sureAddr, fieldPlace, size_run h7, hne, Addr.add_mid, h4]
          exact ⟨_, w, run_v (s := Instr.fieldAt t (a.eval x) f) (by simp only [execOp, ho]) hrun, Bel.refl w, one_of ⟨r, h1, rfl⟩⟩
      · cases h
    · rename_i d l k off y hx hy
      split at h
      · rename_i offs szs hkd
        cases hz : zipN offs szs f with
        | none => rw [hz] at h; cases h
        | some p =>
          rw [hz] at h
          cases h
          obtain ⟨G, o0, h1, hk1, h2⟩ := u_rel (hs.opd hx) rfl
          simp only [List.cons.injEq, and_true] at h1
          obtain ⟨d', hd, hk⟩ := (hE t y hy).desc
          rw [hkd] at hk
          cases d' <;> first | exact hk.elim | skip
          rename_i fs
          obtain ⟨fd, h3, h4, h5, h6⟩ := field_of (o := p.1) (n := p.2) hk hz
          obtain ⟨i, d2, h7, -, h8, -⟩ := row_parts h5
          have hrun : (Instr.fieldAt t (a.eval x) f).run E.P w = .ok (.pointer (some ⟨G, o0 + off + p.1, none⟩)) w := by
            rw [h1]
            have hne : i.size ≠ 0 := by omega
            simp [Instr.fieldAt, run_underlying hd, h3, Instr.sureAddr, fieldPlace, size_run h7, hne, Addr.add_mid, h4]
          exact ⟨_, w, run_v (s := Instr.fieldAt t (a.eval x) f) (by simp only [execOp, ho]) hrun, Bel.refl w, one_of ⟨G, o0, by rw [Nat.add_assoc], hk1, h2⟩⟩
      · cases h
    · cases h
  case field t x f =>
    split at h
    · rename_i v y hx hy
      split at h
      · rename_i offs szs hkd
        split at h
        · rename_i off n hz
          cases hb : (V.size v == y.size)
          · rw [hb] at h; cases h
          · rw [hb] at h
            simp only [cond_true] at h
            simp only [beq_iff_eq] at hb
            cases hg : V.grab v off n with
            | none => rw [hg] at h; cases h
            | some r =>
              rw [hg] at h
              cases h
              obtain ⟨cs, h1, h2⟩ := hs.opd hx
              obtain ⟨h3, h4⟩ := V.grab_rel h1 hg
              obtain ⟨d, hd, hk⟩ := (hE t y hy).desc
              have hrow := (hE t y hy).row
              rw [hkd] at hk hrow
              cases d <;> first | exact hk.elim | skip
              rename_i fs
              obtain ⟨fd, h5, h6, h7, h8⟩ := field_of hk hz
              have hlen := V.rel_len h1
              have hne : cs.length ≠ 1 := by
                intro e
                have : y.size = 1 := by omega
                rw [this] at hrow
                cases hrow
              rw [pack_agg hne] at h2
              have hrun : (Instr.field t (a.eval x) f).run E.P w = .ok (pack ((cs.drop off).take n)) w := by
                rw [h2]
                simp [Instr.field, run_underlying hd, h5, asAgg, h6, part_run h7 h3]
              exact ⟨_, w, run_v (s := Instr.field t (a.eval x) f) (by simp only [execOp, ho]) hrun, Bel.refl w, _, h4, rfl⟩
        · cases h
      · cases h
    · cases h
  case indexAddr t x i =>
    split at h
    · rename_i b off u y hx hi hy
      split at h
      · rename_i n sz k hkd hk
        cases hb : k.blt n
        · rw [hb] at h; cases h
        · rw [hb] at h
          cases h
          obtain ⟨r, h1, h2⟩ := ptr_rel (hs.opd hx)
          obtain ⟨kk, h3⟩ := lit_ix hk (hs.opd hi)
          obtain ⟨d, hd, hdk⟩ := (hE t y hy).desc
          rw [hkd] at hdk
          cases d <;> first | exact hdk.elim | skip
          obtain ⟨rfl, he⟩ := hdk
          obtain ⟨ie, d2, h7, -, h8, -⟩ := row_parts he
          have hlt := Nat.ble_eq.mp hb
          have hrun : (Instr.indexAt t (a.eval x) (a.eval i)).run E.P w = .ok (.pointer (some ⟨r, off + k * sz, none⟩)) w := by
            rw [h2, h3]
            have h9 : (0 : Int) ≤ k ∧ (k : Int) < (_ : Nat) := ⟨Int.natCast_nonneg k, Int.ofNat_lt.2 hlt⟩
            simp [Instr.indexAt, run_underlying hd, Instr.sureAddr, asIntOf, size_run h7, h8, Addr.add_mid, h9]
            intro hle
            omega
          exact ⟨_, w, run_v (s := Instr.indexAt t (a.eval x) (a.eval i)) (by simp only [execOp, ho]) hrun, Bel.refl w, one_of ⟨r, h1, rfl⟩⟩
      · cases h
    · rename_i b n u y hx hi hy
      split at h
      · rename_i e sz pl k hkd hk
        cases hb : k.blt n
        · rw [hb] at h; cases h
        · rw [hb] at h
          cases h
          obtain ⟨r, h1, h2⟩ := own_rel (hs.opd hx)
          have hrun := index_run (w := w) (hE t y hy) hkd (o := 0) (c := C.κ b) (r := r) (Nat.ble_eq.mp hb) hk (hs.opd hi)
          rw [← h2, Nat.zero_add] at hrun
          exact ⟨_, w, run_v (s := Instr.indexAt t (a.eval x) (a.eval i)) (by simp only [execOp, ho]) hrun, Bel.refl w, one_of ⟨r, h1, rfl⟩⟩
      · cases h
    · rename_i d an n l m u y hx hi hy
      split at h
      · rename_i e sz pl k hkd hk
        cases hb : k.blt n
        · rw [hb] at h; cases h
        · rw [hb] at h
          cases h
          have hlt := Nat.ble_eq.mp hb
          obtain ⟨p, c, h1, h2, h3, hkm, h4⟩ := u_rel (hs.opd hx) rfl
          simp only [List.cons.injEq, and_true] at h1
          obtain ⟨G, o0, rfl, h5⟩ := h4 (by omega)
          have hrun := index_run (w := w) (hE t y hy) hkd (o := o0) (c := c) (r := G) hlt hk (hs.opd hi)
          rw [← h1] at hrun
          exact ⟨_, w, run_v (s := Instr.indexAt t (a.eval x) (a.eval i)) (by simp only [execOp, ho]) hrun, Bel.refl w, one_of ⟨G, o0, rfl, hkm, h5⟩⟩
      · cases h
    · cases h
  case index t x i =>
    split at h
    · rename_i v u y hx hi hy
      split at h
      · rename_i n sz k hkd hk
        cases hb : (k.blt n && (V.size v == y.size))
        · rw [hb] at h; cases h
        · rw [hb] at h
          simp only [cond_true] at h
          simp only [Bool.and_eq_true, beq_iff_eq] at hb
          cases hg : V.grab v (k * sz) sz with
          | none => rw [hg] at h; cases h
          | some r =>
            rw [hg] at h
            cases h
            obtain ⟨cs, h1, h2⟩ := hs.opd hx
            obtain ⟨kk, h3⟩ := lit_ix hk (hs.opd hi)
            obtain ⟨h4, h5⟩ := V.grab_rel h1 hg
            obtain ⟨d, hd, hdk⟩ := (hE t y hy).desc
            have hrow := (hE t y hy).row
            rw [hkd] at hdk hrow
            cases d <;> first | exact hdk.elim | skip
            obtain ⟨rfl, he⟩ := hdk
            obtain ⟨ie, d2, h7, -, h8, -⟩ := row_parts he
            have hlen := V.rel_len h1
            have hne : cs.length ≠ 1 := by
              intro e
              have : y.size = 1 := by omega
              rw [this] at hrow
              cases hrow
            rw [pack_agg hne] at h2
            have hlt := Nat.ble_eq.mp hb.1
            have hrun : (Instr.index t (a.eval x) (a.eval i)).run E.P w = .ok (pack ((cs.drop (k * sz)).take sz)) w := by
              rw [h2, h3]
              have h9 : (0 : Int) ≤ k ∧ (k : Int) < (_ : Nat) := ⟨Int.natCast_nonneg k, Int.ofNat_lt.2 hlt⟩
              simp [Instr.index, run_underlying hd, asIntOf, size_run h7, h8, h9, part_run he h4]
              intro hle
              omega
            exact ⟨_, w, run_v (s := Instr.index t (a.eval x) (a.eval i)) (by simp only [execOp, ho]) hrun, Bel.refl w, _, h5, rfl⟩
      · cases h
    · cases h
  case extract x i =>
    split at h
    · rename_i l hx
      cases hn : nth l i with
      | none => rw [hn] at h; cases h
      | some v =>
        rw [hn] at h
        cases h
        obtain ⟨vs, h1, h2⟩ := hs.opd hx
        obtain ⟨u, h3, h4⟩ := all_nth h2 hn
        exact ⟨u, w, run_v (s := Instr.extract (a.eval x) i) (by simp only [execOp, ho]) (by rw [h1]; simp [Instr.extract, h3]), Bel.refl w, h4⟩
    · cases h
  case call c =>
    split at h
    · rename_i f hc
      split at h
      · rename_i g first caps vs hf hv
        cases hb : (first.isEmpty && caps.isEmpty)
        · rw [hb] at h; cases h
        · rw [hb] at h
          simp only [cond_true] at h
          cases hz : frzs st (memN E.ex g) vs with
          | none => rw [hz] at h; cases h
          | some p =>
            rw [hz] at h
            cases h
            simp only [Bool.and_eq_true, Array.isEmpty_iff] at hb
            obtain ⟨rfl, rfl⟩ := hb
            have hfv := u_rel (hs.opd hf) rfl
            simp only [U.rel, List.cons.injEq, and_true] at hfv
            have e : (List.toArray (c.args.toList.map a.eval)) = c.args.map a.eval := by rw [← Array.toList_map, Array.toArray_toList]
            refine ⟨c.args.toList.map a.eval, ?_, frzs_rel hs (C.less p.2) (ones_rel hs hv) hz ⟨fun _ _ h => h, fun _ _ _ => rfl, fun _ _ h => h.1⟩ (fun b hb' r hr h => h.2 b hb' hr)⟩
            rw [e]
            simp [execOp, ho, resolve, hc, hfv, Deferred.ofValue, invoke]
      · cases h
    · rename_i hc
      split at h
      · rename_i u v t t' hu ht
        cases htt : t == t'
        · rw [htt] at h; cases h
        · rw [htt] at h
          simp only [beq_iff_eq] at htt
          subst htt
          simp only [cond_true] at h
          split at h
          · rename_i y hy
            split at h
            · rename_i e sz hkd
              split at h
              · rename_i us src m xs tb hro hnw
                cases hm : (m.ble 100000 && !(m == 0))
                · rw [hm] at h; cases h
                · rw [hm] at h
                  simp only [cond_true] at h
                  simp only [Bool.and_eq_true, Bool.not_eq_true', beq_eq_false_iff_ne] at hm
                  have hm1 := Nat.le_of_ble_eq_true hm.1
                  obtain ⟨d, hd, hk⟩ := (hE t y hy).desc
                  rw [hkd] at hk
                  cases d <;> first | exact hk.elim | skip
                  rename_i el
                  obtain ⟨rfl, h0, i, z, hi, hsz, hz, hzs, hby, hpz⟩ := hk
                  have hpz := hpz rfl
                  obtain ⟨args, hargs⟩ : ∃ l, c.args.toList = l := ⟨_, rfl⟩
                  rw [hargs] at hu
                  match args, hu, hargs with
                  | [], hu, _ => cases hu
                  | [_], hu, _ => simp at hu
                  | _ :: _ :: _ :: _, hu, _ => simp at hu
                  | [x1, x2], hu, hargs =>
                    simp only [List.map_cons, List.map_nil, List.cons.injEq, and_true] at hu
                    have ea : c.args = #[x1, x2] := Array.toList_inj.1 (by rw [hargs])
                    have et : c.argTypes = #[t, t] := Array.toList_inj.1 (by rw [ht])
                    obtain ⟨g, c', news, h1, h2, h3, h4, h5⟩ := news_rel hs hnw (hs.opd hu.2)
                    have hne : sz ≠ 0 := by omega
                    have hex : ∀ {v : Value} {w' : World}, (Builtin.append_ #[t, t] o.type #[a.eval x1, a.eval x2]).run E.P w = .ok v w' → (execOp a.eval o).run E.P w = .ok (.value v) w' := fun {v w'} hrun => by
                      simp only [execOp, ho, resolve, hc, ea, et]
                      simp [invoke, builtin, hrun]
                    cases h
                    rcases rowOf_of hro with ⟨hnil, rfl, rfl⟩ | ⟨b, n, B, rfl, hB, hb1, hb2, hb3, hb4, rfl, rfl⟩
                    · have hv1 := nil_rel hnil (hs.opd hu.1)
                      obtain ⟨c2, js', w', j1, j2, j3, j4, j5, j7⟩ := grow_nil (ty := o.type) hd hi hz hsz hzs hby h2 h3 hm1 (Nat.pos_of_ne_zero hm.2)
                      have hq : V.size xs / sz = m := by
                        rw [← V.rel_len h5, h2]
                        exact Nat.mul_div_cancel _ h0
                      refine ⟨w.heap.size, c2, news, js', w', ?_, h5, fun v hv => ?_, j2, j3, fun _ => ⟨j4, j5⟩, fun h => (by cases h), fun b' hb' => (by cases hb'), .inl rfl⟩
                      · simp only [newVal, hne, if_false, List.nil_append, hq]
                        exact hex (by rw [hv1, h1]; exact j1)
                      · rcases List.mem_append.1 hv with hv | hv
                        · exact h4 v hv
                        · exact hpz v (j7 v hv)
                    · obtain ⟨r, hβ, hv1⟩ := own_rel (hs.opd hu.1)
                      obtain ⟨r', cs, js, k1, k2, k3, k4, k5, -⟩ := hs.box b B hB
                      rw [hβ] at k1
                      cases k1
                      obtain ⟨k5, k6⟩ := k5 (by omega)
                      rw [hb1] at k5
                      rw [hb2] at k2
                      obtain ⟨r2, c2, js', w', j1, j2, j3, j4, j5, j6, j7⟩ := grow_own (ty := o.type) hd hi hz hsz hzs hby (fun v hv => plain_one hv) k2 ((V.rel_len k3).trans hb3) k5 k6 h2 h3 h4 hm1 hb4
                      have hq : V.size (B.us ++ xs) / sz = n + m := by
                        rw [← V.rel_len (V.rel_append k3 h5), List.length_append, (V.rel_len k3).trans hb3, h2, ← Nat.add_mul]
                        exact Nat.mul_div_cancel _ h0
                      refine ⟨r2, c2, cs ++ news, js', w', ?_, V.rel_append k3 h5, fun v hv => ?_, j2, j3, fun _ => ⟨j4, j5⟩, fun h => (by cases h), fun b' hb' => ?_, j6.imp id fun h => ⟨b, rfl, by rw [h]; exact hβ⟩⟩
                      · simp only [newVal, hne, if_false, hq]
                        exact hex (by rw [hv1, h1]; exact j1)
                      · rcases List.mem_append.1 hv with hv | hv
                        · rcases List.mem_append.1 hv with hv | hv
                          · exact k4 v (by simp [hv])
                          · exact h4 v hv
                        · rcases j7 v hv with hv | hv
                          · exact k4 v (by simp [hv])
                          · exact hpz v hv
                      · cases hb'
                        exact ⟨B, hB⟩
              · cases h
            · cases h
          · cases h
      · cases h
    · rename_i hc
      split at h
      · rename_i u t hu ht
        split at h
        · rename_i y hy
          split at h
          · rename_i e' sz pl hkd
            obtain ⟨d, hd, hk⟩ := (hE t y hy).desc
            rw [hkd] at hk
            cases d <;> first | exact hk.elim | skip
            rename_i el
            cases hr : u.len with
            | none => rw [hr] at h; cases h
            | some r =>
              rw [hr] at h
              cases h
              obtain ⟨args, hargs⟩ : ∃ l, c.args.toList = l := ⟨_, rfl⟩
              rw [hargs] at hu
              match args, hu, hargs with
              | [], hu, _ => cases hu
              | _ :: _ :: _, hu, _ => simp at hu
              | [x], hu, hargs =>
                simp only [List.map_cons, List.map_nil, List.cons.injEq, and_true] at hu
                obtain ⟨p, n, c', h1, h2⟩ := len_rel hr (u_rel (hs.opd hu) (len_size hr))
                have ea : c.args = #[x] := Array.toList_inj.1 (by rw [hargs])
                have et : c.argTypes = #[t] := Array.toList_inj.1 (by rw [ht])
                have hrun : (Builtin.len_ #[t] o.type #[a.eval x]).run E.P w = .ok (.int .i64 n) w := by
                  rw [h1]
                  simp [Builtin.len_, run_underlying hd, goInt]
                refine ⟨_, w, ?_, Bel.refl w, h2⟩
                simp only [execOp, ho, resolve, hc, ea, et]
                simp [invoke, builtin, hrun]
          · cases h
        · cases h
      · cases h
    · cases h
end
end Go.Proofs.YtaaehcohmdojgaaGreatDoor
