/-
  The evaluator's operations hold on the machine: all of them.
-/
import Derived.Test.YtafmfnpjhhaikaaGreatDoorZau
import Derived.Laws.Tables
namespace Go.Proofs.YtafmfnpjhhaikaaGreatDoor
open Go.RowKit Go.Shelf
theorem fold_set (off : Nat) : ∀ (vs : List Value) (k : Nat) (p old s : List Value), p.length = off + k → old.length = vs.length →
    (vs.zipIdx k).foldl (fun (cs : Array Value) (x : Value × Nat) => cs.setIfInBounds (off + x.2) x.1) (p ++ old ++ s).toArray = (p ++ vs ++ s).toArray
  | [], _, p, old, s, _, h => by
    have := List.length_eq_zero_iff.1 h
    subst this
    simp
  | v :: vs, k, p, [], s, _, h => by simp at h
  | v :: vs, k, p, x :: old, s, hp, h => by
    have := fold_set off vs (k + 1) (p ++ [v]) old s (by simp; omega) (by simpa using h)
    simp only [List.zipIdx_cons, List.foldl_cons]
    have e : (p ++ x :: old ++ s).toArray.setIfInBounds (off + k) v = ((p ++ [v]) ++ old ++ s).toArray := by
      rw [List.setIfInBounds_toArray]
      congr 1
      rw [← hp, List.append_assoc, List.set_append_right _ _ (Nat.le_refl _), Nat.sub_self]
      simp
    rw [e, this]
    simp
section
variable {E : Env} {C : Ctx} {w : World} {st : St} {a : Act}
theorem fill_step {p old s vs : List Value} (h : old.length = vs.length) : (vs.toArray.zipIdx.foldl (fun (cs : Array Value) (x : Value × Nat) => cs.setIfInBounds (p.length + x.2) x.1) (p ++ old ++ s).toArray) = (p ++ vs ++ s).toArray := by
  have := fold_set p.length vs 0 p old s (by simp) h
  rw [← Array.foldl_toList, Array.toList_zipIdx]
  exact this
theorem fill_rel {place place' : Nat → Option (Nat × Nat)} (hpl : ∀ i p, place i = some p → place' i = some p) : ∀ (ps : List (Nat × Option T)) (qs : List (Nat × Value)) (c : V) (cs : List Value) (v : V),
    ps.length = qs.length → (∀ (i : Nat) p q, ps[i]? = some p → qs[i]? = some q → p.1 = q.1 ∧ ∀ x, p.2 = some x → T.rel C w x q.2) → c.rel C w cs → fillV place c ps = some v → ∃ cs', Instr.fill place' cs.toArray qs = some (List.toArray cs') ∧ v.rel C w cs'
  | [], [], c, cs, v, _, _, hc, hf => by
    simp only [fillV, Option.some.injEq] at hf
    subst hf
    exact ⟨cs, rfl, hc⟩
  | [], _ :: _, _, _, _, hl, _, _, _ => by simp at hl
  | _ :: _, [], _, _, _, hl, _, _, _ => by simp at hl
  | (i, none) :: ps, q :: qs, c, cs, v, hl, hr, hc, hf => by simp [fillV] at hf
  | (i, some (.tup l)) :: ps, q :: qs, c, cs, v, hl, hr, hc, hf => by simp [fillV] at hf
  | (i, some (.one x)) :: ps, (j, u) :: qs, c, cs, v, hl, hr, hc, hf => by
    obtain ⟨h1, h2⟩ := hr 0 _ _ rfl rfl
    dsimp only at h1 h2
    subst h1
    obtain ⟨vs, h3, h4⟩ := h2 _ rfl
    simp only [fillV] at hf
    split at hf
    · rename_i o n hp
      cases hb : (V.size x == n && V.fine x)
      · rw [hb] at hf; cases hf
      · rw [hb] at hf
        simp only [cond_true] at hf
        simp only [Bool.and_eq_true, beq_iff_eq] at hb
        split at hf
        · rename_i c' hput
          have hlen := V.rel_len h3
          obtain ⟨p, old, s, rfl, h5, h6, h7⟩ := V.put_rel hc hput h3 (by omega)
          obtain ⟨cs', h8, h9⟩ := fill_rel hpl ps qs c' _ v (by simpa using hl) (fun k p q hp hq => hr (k + 1) p q (by simpa using hp) (by simpa using hq)) h7 hf
          refine ⟨cs', ?_, h9⟩
          have hcells := pack_cells (V.plain h3 hb.2)
          rw [← h4] at hcells
          simp only [Instr.fill, hpl _ _ hp]
          rw [if_neg]
          · rw [hcells, ← h5, fill_step (by omega)]
            exact h8
          · rw [hcells]
            simp
            omega
        · cases hf
    · cases hf
theorem fold_size (off : Nat) : ∀ (l : List (Value × Nat)) (cs : Array Value), (l.foldl (fun (cs : Array Value) (x : Value × Nat) => cs.setIfInBounds (off + x.2) x.1) cs).size = cs.size
  | [], _ => rfl
  | x :: l, cs => by rw [List.foldl_cons, fold_size off l]; simp
theorem fill_size {place : Nat → Option (Nat × Nat)} : ∀ (cs : Array Value) (qs : List (Nat × Value)) (r : Array Value), Instr.fill place cs qs = some r → r.size = cs.size
  | cs, [], r, h => by simp only [Instr.fill, Option.some.injEq] at h; rw [h]
  | cs, (i, v) :: qs, r, h => by
    simp only [Instr.fill] at h
    split at h
    · cases h
    · split at h
      · cases h
      · rw [fill_size _ qs r h, ← Array.foldl_toList]
        exact fold_size _ _ _
theorem places_of {P : Program} {fs : List Field} {offs szs : List Nat} (h1 : fs.map (·.offset) = offs) (h2 : fs.map (fun f => rowAt P f.type) = szs.map (fun n => some (n, !(n == 1)))) : fs.mapM (fun f => (P.info? f.type).map fun i => (f.offset, i.size)) = some (offs.zip szs) := by
  subst h1
  induction fs generalizing szs with
  | nil => cases szs <;> first | rfl | simp at h2
  | cons f fs ih =>
    cases szs with
    | nil => simp at h2
    | cons n szs =>
      simp only [List.map_cons, List.cons.injEq] at h2
      obtain ⟨i, d, h3, -, h4, -⟩ := row_parts h2.1
      simp [List.mapM_cons, h3, h4, ih h2.2]
theorem ones_rel {args : List Operand} (hs : Sees C w st a) : ∀ {xs : List V}, ones (args.map st.opd) = some xs → V.hasAll C w xs (args.map a.eval) := by
  induction args with
  | nil => intro xs h; simp only [List.map_nil, ones, Option.some.injEq] at h; subst h; rfl
  | cons x l ih =>
    intro xs h
    simp only [List.map_cons] at h
    cases hx : st.opd x with
    | none => rw [hx] at h; simp [ones] at h
    | some t =>
      rw [hx] at h
      cases t with
      | tup _ => simp [ones] at h
      | one v =>
        simp only [ones] at h
        cases hr : ones (l.map st.opd) with
        | none => rw [hr] at h; cases h
        | some r =>
          rw [hr] at h
          simp only [Option.map_some, Option.some.injEq] at h
          subst h
          exact ⟨_, _, rfl, hs.opd hx, ih hr⟩
theorem all_nth : ∀ {l : List V} {vs : List Value} {i : Nat} {x : V}, V.hasAll C w l vs → nth l i = some x → ∃ v, vs[i]? = some v ∧ x.has C w v
  | [], _, _, _, _, h => by simp [nth] at h
  | _ :: _, _, 0, _, h, hx => by
    obtain ⟨v, r, rfl, h1, _⟩ := h
    simp only [nth, Option.some.injEq] at hx
    subst hx
    exact ⟨v, rfl, h1⟩
  | _ :: _, _, i + 1, _, h, hx => by
    obtain ⟨v, r, rfl, _, h2⟩ := h
    obtain ⟨u, h3, h4⟩ := all_nth h2 hx
    exact ⟨u, by simpa using h3, h4⟩
theorem len_size {u r : U} (h : u.len = some r) : u.size = 1 := by
  unfold U.len at h
  split at h <;> first | rfl | cases h
theorem len_rel {u r : U} {v : Value} (h : u.len = some r) (hr : u.rel C w [v]) : ∃ p, ∃ n c : Nat, v = .slice p n c ∧ T.rel C w (.one [r]) (.int .i64 n) := by
  unfold U.len at h
  split at h <;> simp only [U.rel, List.cons.injEq, and_true] at hr <;> first | (cases h; done) | skip
  · cases h; exact ⟨_, _, _, hr, one_of rfl⟩
  · cases h; exact ⟨_, _, _, hr, one_of rfl⟩
  · cases h
    obtain ⟨v', he, ⟨p, c, h1, _⟩, _⟩ := hr
    subst he
    exact ⟨_, _, _, h1, one_of rfl⟩
  · cases h
    obtain ⟨v', he, ⟨p, c, h1, _⟩, _⟩ := hr
    subst he
    exact ⟨_, _, _, h1, one_of rfl⟩
  · cases h
    obtain ⟨v', he, p, c, h1, _⟩ := hr
    subst he
    exact ⟨_, _, _, h1, one_of rfl⟩
  · cases h
    obtain ⟨G, h1, _⟩ := hr
    exact ⟨_, _, _, h1, one_of rfl⟩
  · cases h
    obtain ⟨p, c, h1, _⟩ := hr
    exact ⟨_, _, _, h1, one_of rfl⟩
theorem lit_ix {u : U} {k : Nat} (h : litIx u = some k) {v : Value} (hr : T.rel C w (.one [u]) v) : ∃ kd, v = .int kd k := by
  unfold litIx at h
  split at h
  · simp only [Option.some.injEq] at h
    subst h
    have := u_rel hr rfl
    simp only [U.rel, List.cons.injEq, and_true] at this
    exact ⟨_, this⟩
  · cases h
theorem ptr_rel {b o : Nat} {v : Value} (h : T.rel C w (.one [.ptr b o]) v) : ∃ r, C.β b = some r ∧ v = .pointer (some ⟨r, o, none⟩) := by
  obtain ⟨r, h1, h2⟩ := u_rel h rfl
  simp only [List.cons.injEq, and_true] at h2
  exact ⟨r, h1, h2⟩
theorem elem_of {P : Program} {e : TypeId} {sz : Nat} (h : (P.info? e).map (fun i => (i.size, i.zero.isSome)) = some (sz, true)) : ∃ i, P.info? e = some i ∧ i.size = sz ∧ ∃ z, i.zero = some z := by
  cases hi : P.info? e with
  | none => rw [hi] at h; cases h
  | some i =>
    rw [hi] at h
    simp only [Option.map_some, Option.some.injEq, Prod.mk.injEq] at h
    exact ⟨i, rfl, h.1, Option.isSome_iff_exists.1 h.2⟩
theorem anys_rel : ∀ (n : Nat) (cs : List Value), cs.length = n → V.rel C w (anys n) cs
  | 0, cs, h => by
    have := List.length_eq_zero_iff.1 h
    subst this
    rfl
  | n + 1, [], h => by simp at h
  | n + 1, v :: cs, h => ⟨[v], cs, rfl, ⟨v, rfl⟩, anys_rel n cs (by simpa using h)⟩
theorem exacts_rel : ∀ {x : V} {cs l : List Value}, x.rel C w cs → exacts x = some l → cs = l
  | [], cs, l, h, he => by
    simp only [exacts, Option.some.injEq] at he
    subst he
    exact h
  | u :: r, cs, l, h, he => by
    obtain ⟨c1, c2, rfl, h1, h2⟩ := h
    cases u <;> simp only [exacts] at he <;> first | (cases he; done) | skip
    all_goals
      cases hr : exacts r with
      | none => rw [hr] at he; cases he
      | some m =>
        rw [hr] at he
        cases he
        have := exacts_rel h2 hr
        subst this
        first
          | (obtain ⟨rfl, _⟩ := h1; rfl)
          | (simp only [U.rel] at h1; subst h1; rfl)
theorem opEval_does (hE : ∀ t y, look E.ty t = some y → TyOk E.P t y) (hs : Sees C w st a) (hlt : ∀ r, C.S r → r < w.heap.size) {o : Oper} {e : Eff} (h : opEval E st o.op = some e) : e.does E.P C st a w o := by
  cases ho : o.op <;> rw [ho] at h <;> simp only [opEval] at h <;> first | (cases h; done) | skip
  case move x =>
    cases hx : st.opd x with
    | none => rw [hx] at h; cases h
    | some t =>
      rw [hx] at h
      cases h
      exact ⟨a.eval x, w, by simp [execOp, ho], Bel.refl w, hs.opd hx⟩
  case assign x =>
    cases hx : st.opd x with
    | none => rw [hx] at h; cases h
    | some t =>
      rw [hx] at h
      cases h
      exact ⟨a.eval x, w, by simp [execOp, ho], Bel.refl w, hs.opd hx⟩
  case pick c x y =>
    split at h
    · rename_i hc
      have hcv := u_rel (hs.opd hc) rfl
      simp only [U.rel, List.cons.injEq, and_true] at hcv
      cases hx : st.opd x with
      | none => rw [hx] at h; cases h
      | some t =>
        rw [hx] at h
        cases h
        exact ⟨a.eval x, w, by simp [execOp, ho, hcv, asBool], Bel.refl w, hs.opd hx⟩
    · rename_i hc
      have hcv := u_rel (hs.opd hc) rfl
      simp only [U.rel, List.cons.injEq, and_true] at hcv
      cases hx : st.opd y with
      | none => rw [hx] at h; cases h
      | some t =>
        rw [hx] at h
        cases h
        exact ⟨a.eval y, w, by simp [execOp, ho, hcv, asBool], Bel.refl w, hs.opd hx⟩
    · cases h
  case alloc t =>
    cases hy : look E.ty t with
    | none => rw [hy] at h; cases h
    | some y =>
      rw [hy] at h
      cases h
      have hT := hE t y hy
      obtain ⟨i, hi, -, z, hz, -, hr⟩ := hT.info
      refine ⟨z.cells.toList, ?_, hr C w, V.plain (hr C w) hT.fine⟩
      simp [execOp, ho, Instr.alloc, zeroValue, typeInfo, hi, hz, newVar, newRow]
  case box t x =>
    split at h
    · rename_i v y hv hy
      cases hb : (V.size v == y.size && V.fine v)
      · rw [hb] at h; cases h
      · rw [hb] at h
        cases h
        simp only [Bool.and_eq_true] at hb
        obtain ⟨cs, h1, h2⟩ := hs.opd hv
        have hp := V.plain h1 hb.2
        refine ⟨cs, ?_, h1, hp⟩
        simp [execOp, ho, Instr.box, newVar, newRow, h2, pack_cells hp]
    · cases h
  case build t parts =>
    split at h
    · rename_i y hy
      have hT := hE t y hy
      cases hb : y.kd.row
      · rw [hb] at h; cases h
      · rw [hb] at h
        simp only [cond_true] at h
        cases hf : fillV y.kd.place y.zero (parts.toList.map fun p => (p.1, st.opd p.2)) with
        | none => rw [hf] at h; cases h
        | some v =>
          rw [hf] at h
          cases h
          obtain ⟨i, hi, hsz, z, hz, hzs, hr⟩ := hT.info
          obtain ⟨d, hd, hk⟩ := hT.desc
          have hrow := hT.row
          rw [hb] at hrow
          have hfill : ∀ (place' : Nat → Option (Nat × Nat)), (∀ i p, y.kd.place i = some p → place' i = some p) → ∃ cs', Instr.fill place' z.cells (parts.map fun (i, x) => (i, a.eval x)).toList = some (List.toArray cs') ∧ v.rel C w cs' := fun place' hpl => by
            have := fill_rel (C := C) (w := w) hpl (parts.toList.map fun p => (p.1, st.opd p.2)) ((parts.map fun (i, x) => (i, a.eval x)).toList) y.zero z.cells.toList v (by simp) (fun i p q hp hq => by
              rw [List.getElem?_map] at hp
              simp only [Array.toList_map, List.getElem?_map] at hq
              cases hx : parts.toList[i]? with
              | none => rw [hx] at hp; cases hp
              | some r =>
                rw [hx] at hp hq
                simp only [Option.map_some, Option.some.injEq] at hp hq
                subst hp hq
                exact ⟨rfl, fun x hx => hs.opd hx⟩) (hr C w) hf
            simpa using this
          have hfin : ∀ cs', E.P.built t (parts.map fun (i, x) => (i, a.eval x)).toList = some (List.toArray cs') → v.rel C w cs' → Eff.does E.P C st a w o (.val (.one v)) := fun cs' hbt hrel => by
            refine ⟨.agg cs'.toArray, w, ?_, Bel.refl w, cs', hrel, ?_⟩
            · exact run_v (s := Instr.build t (parts.map fun (i, x) => (i, a.eval x))) (by simp only [execOp, ho]) (run_build w t _ _ hbt)
            · have hl : cs'.length = y.size := by
                obtain ⟨cs'', h1, h2⟩ := hfill y.kd.place (fun _ _ h => h)
                rw [V.rel_len hrel, ← V.rel_len h2]
                have h3 := fill_size z.cells (parts.map fun (i, x) => (i, a.eval x)).toList _ h1
                simp at h3
                omega
              rw [pack_agg]
              rw [hl]
              intro he
              rw [he] at hrow
              cases hrow
          cases hkd : y.kd <;> rw [hkd] at hk hfill <;> cases d <;> first | exact hk.elim | (rw [hkd] at hb; cases hb; done) | skip
          · rename_i offs szs fs
            have hm : fs.toList.mapM (fun f => (E.P.info? f.type).map fun i => (f.offset, i.size)) = some (offs.zip szs) := places_of hk.1 hk.2.1
            obtain ⟨cs', h1, h2⟩ := hfill ((offs.zip szs).toArray[·]?) (fun i p hp => by
              obtain ⟨h3, h4⟩ := zip_get (o := p.1) (n := p.2) hp
              rw [List.getElem?_toArray, List.getElem?_zip_eq_some]
              exact ⟨h3, h4⟩)
            refine hfin cs' ?_ h2
            simp only [Program.built, hi, hd, hz, hm]
            exact h1
          · rename_i n sz m e
            obtain ⟨hn, he⟩ := hk
            obtain ⟨ie, de, h3, h4, h5, -⟩ := row_parts he
            obtain ⟨cs', h1, h2⟩ := hfill (fun i => some (i * ie.size, ie.size)) (fun i p hp => by rw [h5]; exact hp)
            refine hfin cs' ?_ h2
            simp only [Program.built, hi, hd, hz, h3]
            exact h1
    · cases h
  case buildSlice t n parts =>
    split at h
    · rename_i y hy
      split at h
      · rename_i sz hkd
        cases hb : (n * sz).ble 16777216
        · rw [hb] at h; cases h
        · rw [hb] at h
          simp only [cond_true] at h
          split at h
          · rename_i c hf
            split at h
            · rename_i l hl
              cases hll : (l.length == n * sz)
              · rw [hll] at h; cases h
              · rw [hll] at h
                cases h
                simp only [beq_iff_eq] at hll
                obtain ⟨d, hd, hk⟩ := (hE t y hy).desc
                rw [hkd] at hk
                cases d <;> first | exact hk.elim | skip
                rename_i el
                obtain ⟨i, hi, hsz, z, hz⟩ := elem_of hk
                obtain ⟨cs', h1, h2⟩ := fill_rel (C := C) (w := w) (place' := fun i => some (i * sz, sz)) (fun _ _ h => h) (parts.toList.map fun p => (p.1, st.opd p.2)) ((parts.map fun (i, x) => (i, a.eval x)).toList) (anys (n * sz)) ((List.range (n * sz)).map fun j => (if n * sz = 0 then #[] else z.cells)[j % (if n * sz = 0 then #[] else z.cells).size]!) c (by simp) (fun i p q hp hq => by
                  rw [List.getElem?_map] at hp
                  simp only [Array.toList_map, List.getElem?_map] at hq
                  cases hx : parts.toList[i]? with
                  | none => rw [hx] at hp; cases hp
                  | some r =>
                    rw [hx] at hp hq
                    simp only [Option.map_some, Option.some.injEq] at hp hq
                    subst hp hq
                    exact ⟨rfl, fun x hx => hs.opd hx⟩) (anys_rel _ _ (by simp)) hf
                have hex : cs' = l := exacts_rel h2 hl
                subst hex
                have hle := Nat.le_of_ble_eq_true hb
                refine ⟨.slice (some ⟨w.heap.size, 0, none⟩) n n, w.alloc (.cells cs'.toArray el), ?_, (Bel.refl w).alloc _, one_of ⟨w.heap.size, rfl, hll, fun j u hj => ⟨fun hS => ?_, ?_⟩⟩⟩
                · refine run_v (s := Instr.buildSlice t n (parts.map fun (i, x) => (i, a.eval x))) (by simp only [execOp, ho]) ?_
                  have h1' : Instr.fill (fun i => some (i * sz, sz)) ((Array.range (n * sz)).map fun j => (if n * sz = 0 then #[] else z.cells)[j % (if n * sz = 0 then #[] else z.cells).size]!) (parts.map fun (i, x) => (i, a.eval x)).toList = some cs'.toArray := by
                    rw [← h1]
                    congr 1
                    rw [← Array.toList_inj]
                    simp
                  simp only [Instr.buildSlice, Sem.run_bind, run_underlying hd, Result.andThen_ok, size_run hi, hsz]
                  rw [if_neg (by omega)]
                  by_cases hz0 : n * sz = 0
                  · simp only [hz0, if_true] at h1' ⊢
                    simp only [Sem.run_bind, Sem.run_pure, Result.andThen_ok, h1', newRow, run_newObj_alloc]
                  · simp only [hz0, if_false] at h1' ⊢
                    have hzr : (zeroValue el).run E.P w = .ok z w := by simp [zeroValue, typeInfo, hi, hz]
                    simp only [Sem.run_bind, Sem.run_pure, Result.andThen_ok, hzr, h1', newRow, run_newObj_alloc]
                · exact absurd (hlt _ hS) (Nat.lt_irrefl _)
                · rw [heap_cell (heap_alloc_new w _)]
                  simpa using hj
            · cases h
          · cases h
      · cases h
    · cases h
  case load t x =>
    split at h
    · rename_i b off y hx hy
      split at h
      · rename_i B hB
        cases hg : V.grab B.us off y.size with
        | none => rw [hg] at h; cases h
        | some v =>
          rw [hg] at h
          cases h
          obtain ⟨r, h1, h2⟩ := ptr_rel (hs.opd hx)
          obtain ⟨r', cs, h3, h4, h5, -⟩ := hs.box b B hB
          rw [h1] at h3
          cases h3
          obtain ⟨h6, h7⟩ := V.grab_rel h5 hg
          exact ⟨_, w, run_v (s := Instr.loadAt t (a.eval x)) (by simp only [execOp, ho]) (by rw [h2]; exact load_run (hE t y hy) h4 h6), Bel.refl w, _, h7, rfl⟩
      · cases h
    · cases h
  case store t x y =>
    split at h
    · rename_i b off v z hx hv hz
      cases hb : (V.size v == z.size && V.fine v)
      · rw [hb] at h; cases h
      · rw [hb] at h
        simp only [cond_true] at h
        simp only [Bool.and_eq_true, beq_iff_eq] at hb
        split at h
        · rename_i B hB
          cases hp : V.put B.us off z.size v with
          | none => rw [hp] at h; cases h
          | some c =>
            rw [hp] at h
            cases h
            obtain ⟨r, h1, h2⟩ := ptr_rel (hs.opd hx)
            obtain ⟨r', cs, h3, h4, h5, -⟩ := hs.box b B hB
            rw [h1] at h3
            cases h3
            obtain ⟨vs, h6, h7⟩ := hs.opd hv
            have hlen := V.rel_len h6
            obtain ⟨p, old, s, rfl, h8, h9, h10⟩ := V.put_rel h5 hp h6 (by omega)
            have hpl := V.plain h6 hb.2
            refine ⟨B, r, p, old, s, vs, hB, h1, h4, h8, by omega, h10, hpl, ?_⟩
            have := store_run (hE t z hz) (P := E.P) h4 (by omega) (vs := vs) (by omega) hpl
            rw [h8] at this
            simp only [execOp, ho, h2, h7, Sem.run_bind, this, Result.andThen_ok, Sem.run_pure]
        · cases h
    · cases h
  case binOp op t x y yt =>
    split at h
    · rename_i u v z hx hy hz
      split at h
      · rename_i l p m q hu hv
        cases hr : binV z.kd op p q with
        | none => rw [hr] at h; cases h
        | some r =>
          rw [hr] at h
          cases h
          have e1 := val_of hu (hs.opd hx)
          have e2 := val_of hv (hs.opd hy)
          obtain ⟨d, hd, hk⟩ := (hE t z hz).desc
          exact ⟨r, w, run_v (s := (do eqGuard op t x y (a.eval x) (a.eval y); binOp op t (a.eval x) (a.eval y) : Sem Value)) (by simp only [execOp, ho]) (by rw [e1, e2]; exact binV_run hd hk hr x y w), Bel.refl w, mk_rel⟩
      · cases h
    · cases h
  case unOp op t x =>
    split at h
    · rename_i u hx
      split at h
      · rename_i l p hu
        cases hr : unV op p with
        | none => rw [hr] at h; cases h
        | some r =>
          rw [hr] at h
          cases h
          have e1 := val_of hu (hs.opd hx)
          exact ⟨r, w, run_v (s := Op.unary op (a.eval x)) (by simp only [execOp, ho]) (by rw [e1]; exact unV_run hr w), Bel.refl w, mk_rel⟩
      · cases h
    · cases h
  case convert sr ds x =>
    split at h
    · rename_i u y z hx hy hz
      split at h
      · rename_i l k0 n k hu hkd
        cases h
        have e1 := val_of hu (hs.opd hx)
        obtain ⟨d, hd, hk⟩ := (hE ds z hz).desc
        obtain ⟨d', hd', hk'⟩ := (hE sr y hy).desc
        rw [hkd] at hk
        cases d <;> first | exact hk.elim | skip
        cases hk
        exact ⟨_, w, run_v (s := convert sr ds (a.eval x)) (by simp only [execOp, ho]) (by rw [e1]; simp [convert, run_underlying hd, run_underlying hd', Conv.intToInt]), Bel.refl w, mk_rel⟩
      · cases h
    · cases h
  case fieldAddr t x f =>
    split at h
    · rename_i b off y hx hy
      split at h
      · rename_i offs szs hkd
        cases hz : zipN offs szs f with
        | none => rw [hz] at h; cases h
        | some p =>
          rw [hz] at h
          cases h
          obtain ⟨r, h1, h2⟩ := ptr_rel (hs.opd hx)
          obtain ⟨d, hd, hk⟩ := (hE t y hy).desc
          rw [hkd] at hk
          cases d <;> first | exact hk.elim | skip
          rename_i fs
          obtain ⟨fd, h3, h4, h5, h6⟩ := field_of (o := p.1) (n := p.2) hk hz
          obtain ⟨i, d2, h7, -, h8, -⟩ := row_parts h5
          have hrun : (Instr.fieldAt t (a.eval x) f).run E.P w = .ok (.pointer (some ⟨r, off + p.1, none⟩)) w := by
            rw [h2]
            have hne : i.size ≠ 0 := by omega
            simp [Instr.fieldAt, run_underlying hd, h3, Instr.sureAddr, fieldPlace, size_run h7, hne, Addr.add_mid, h4]
          exact ⟨_, w, run_v (s := Instr.fieldAt t (a.eval x) f) (by simp only [execOp, ho]) hrun, Bel.refl w, one_of ⟨r, h1, rfl⟩⟩
      · cases h
    · cases h
  case field t x f =>
    split at h
    · rename_i v y hx hy
      split at h
      · rename_i offs szs hkd
        split at h
        · rename_i off n hz
          cases hb : (V.size v == y.size)
          · rw [hb] at h; cases h
          · rw [hb] at h
            simp only [cond_true] at h
            simp only [beq_iff_eq] at hb
            cases hg : V.grab v off n with
            | none => rw [hg] at h; cases h
            | some r =>
              rw [hg] at h
              cases h
              obtain ⟨cs, h1, h2⟩ := hs.opd hx
              obtain ⟨h3, h4⟩ := V.grab_rel h1 hg
              obtain ⟨d, hd, hk⟩ := (hE t y hy).desc
              have hrow := (hE t y hy).row
              rw [hkd] at hk hrow
              cases d <;> first | exact hk.elim | skip
              rename_i fs
              obtain ⟨fd, h5, h6, h7, h8⟩ := field_of hk hz
              have hlen := V.rel_len h1
              have hne : cs.length ≠ 1 := by
                intro e
                have : y.size = 1 := by omega
                rw [this] at hrow
                cases hrow
              rw [pack_agg hne] at h2
              have hrun : (Instr.field t (a.eval x) f).run E.P w = .ok (pack ((cs.drop off).take n)) w := by
                rw [h2]
                simp [Instr.field, run_underlying hd, h5, asAgg, h6, part_run h7 h3]
              exact ⟨_, w, run_v (s := Instr.field t (a.eval x) f) (by simp only [execOp, ho]) hrun, Bel.refl w, _, h4, rfl⟩
        · cases h
      · cases h
    · cases h
  case indexAddr t x i =>
    split at h
    · rename_i b off u y hx hi hy
      split at h
      · rename_i n sz k hkd hk
        cases hb : k.blt n
        · rw [hb] at h; cases h
        · rw [hb] at h
          cases h
          obtain ⟨r, h1, h2⟩ := ptr_rel (hs.opd hx)
          obtain ⟨kk, h3⟩ := lit_ix hk (hs.opd hi)
          obtain ⟨d, hd, hdk⟩ := (hE t y hy).desc
          rw [hkd] at hdk
          cases d <;> first | exact hdk.elim | skip
          obtain ⟨rfl, he⟩ := hdk
          obtain ⟨ie, d2, h7, -, h8, -⟩ := row_parts he
          have hlt := Nat.ble_eq.mp hb
          have hrun : (Instr.indexAt t (a.eval x) (a.eval i)).run E.P w = .ok (.pointer (some ⟨r, off + k * sz, none⟩)) w := by
            rw [h2, h3]
            have h9 : (0 : Int) ≤ k ∧ (k : Int) < (_ : Nat) := ⟨Int.natCast_nonneg k, Int.ofNat_lt.2 hlt⟩
            simp [Instr.indexAt, run_underlying hd, Instr.sureAddr, asIntOf, size_run h7, h8, Addr.add_mid, h9]
            intro hle
            omega
          exact ⟨_, w, run_v (s := Instr.indexAt t (a.eval x) (a.eval i)) (by simp only [execOp, ho]) hrun, Bel.refl w, one_of ⟨r, h1, rfl⟩⟩
      · cases h
    · cases h
  case index t x i =>
    split at h
    · rename_i v u y hx hi hy
      split at h
      · rename_i n sz k hkd hk
        cases hb : (k.blt n && (V.size v == y.size))
        · rw [hb] at h; cases h
        · rw [hb] at h
          simp only [cond_true] at h
          simp only [Bool.and_eq_true, beq_iff_eq] at hb
          cases hg : V.grab v (k * sz) sz with
          | none => rw [hg] at h; cases h
          | some r =>
            rw [hg] at h
            cases h
            obtain ⟨cs, h1, h2⟩ := hs.opd hx
            obtain ⟨kk, h3⟩ := lit_ix hk (hs.opd hi)
            obtain ⟨h4, h5⟩ := V.grab_rel h1 hg
            obtain ⟨d, hd, hdk⟩ := (hE t y hy).desc
            have hrow := (hE t y hy).row
            rw [hkd] at hdk hrow
            cases d <;> first | exact hdk.elim | skip
            obtain ⟨rfl, he⟩ := hdk
            obtain ⟨ie, d2, h7, -, h8, -⟩ := row_parts he
            have hlen := V.rel_len h1
            have hne : cs.length ≠ 1 := by
              intro e
              have : y.size = 1 := by omega
              rw [this] at hrow
              cases hrow
            rw [pack_agg hne] at h2
            have hlt := Nat.ble_eq.mp hb.1
            have hrun : (Instr.index t (a.eval x) (a.eval i)).run E.P w = .ok (pack ((cs.drop (k * sz)).take sz)) w := by
              rw [h2, h3]
              have h9 : (0 : Int) ≤ k ∧ (k : Int) < (_ : Nat) := ⟨Int.natCast_nonneg k, Int.ofNat_lt.2 hlt⟩
              simp [Instr.index, run_underlying hd, asIntOf, size_run h7, h8, h9, part_run he h4]
              intro hle
              omega
            exact ⟨_, w, run_v (s := Instr.index t (a.eval x) (a.eval i)) (by simp only [execOp, ho]) hrun, Bel.refl w, _, h5, rfl⟩
      · cases h
    · cases h
  case extract x i =>
    split at h
    · rename_i l hx
      cases hn : nth l i with
      | none => rw [hn] at h; cases h
      | some v =>
        rw [hn] at h
        cases h
        obtain ⟨vs, h1, h2⟩ := hs.opd hx
        obtain ⟨u, h3, h4⟩ := all_nth h2 hn
        exact ⟨u, w, run_v (s := Instr.extract (a.eval x) i) (by simp only [execOp, ho]) (by rw [h1]; simp [Instr.extract, h3]), Bel.refl w, h4⟩
    · cases h
  case call c =>
    split at h
    · rename_i f hc
      split at h
      · rename_i g first caps vs hf hv
        cases hb : (first.isEmpty && caps.isEmpty)
        · rw [hb] at h; cases h
        · rw [hb] at h
          cases h
          simp only [Bool.and_eq_true, Array.isEmpty_iff] at hb
          obtain ⟨rfl, rfl⟩ := hb
          have hfv := u_rel (hs.opd hf) rfl
          simp only [U.rel, List.cons.injEq, and_true] at hfv
          refine ⟨c.args.toList.map a.eval, ?_, ones_rel hs hv⟩
          have e : (List.toArray (c.args.toList.map a.eval)) = c.args.map a.eval := by rw [← Array.toList_map, Array.toArray_toList]
          rw [e]
          simp [execOp, ho, resolve, hc, hfv, Deferred.ofValue, invoke]
      · cases h
    · rename_i hc
      split at h
      · rename_i u t hu ht
        split at h
        · rename_i y hy
          split at h
          · rename_i sz hkd
            obtain ⟨d, hd, hk⟩ := (hE t y hy).desc
            rw [hkd] at hk
            cases d <;> first | exact hk.elim | skip
            rename_i el
            cases hr : u.len with
            | none => rw [hr] at h; cases h
            | some r =>
              rw [hr] at h
              cases h
              obtain ⟨args, hargs⟩ : ∃ l, c.args.toList = l := ⟨_, rfl⟩
              rw [hargs] at hu
              match args, hu, hargs with
              | [], hu, _ => cases hu
              | _ :: _ :: _, hu, _ => simp at hu
              | [x], hu, hargs =>
                simp only [List.map_cons, List.map_nil, List.cons.injEq, and_true] at hu
                obtain ⟨p, n, c', h1, h2⟩ := len_rel hr (u_rel (hs.opd hu) (len_size hr))
                have ea : c.args = #[x] := Array.toList_inj.1 (by rw [hargs])
                have et : c.argTypes = #[t] := Array.toList_inj.1 (by rw [ht])
                have hrun : (Builtin.len_ #[t] o.type #[a.eval x]).run E.P w = .ok (.int .i64 n) w := by
                  rw [h1]
                  simp [Builtin.len_, run_underlying hd, goInt]
                refine ⟨_, w, ?_, Bel.refl w, h2⟩
                simp only [execOp, ho, resolve, hc, ea, et]
                simp [invoke, builtin, hrun]
          · cases h
        · cases h
      · cases h
    · cases h
end
theorem splice_mid : ∀ (vs pre old s : List Value), old.length = vs.length → splice (pre ++ old ++ s) pre.length vs = pre ++ vs ++ s
  | [], pre, old, s, h => by simp at h; simp [splice, h]
  | v :: r, pre, [], s, h => by simp at h
  | v :: r, pre, x :: old, s, h => by
    have := splice_mid r (pre ++ [v]) old s (by simpa using h)
    simp only [List.length_append, List.length_singleton, List.append_assoc, List.cons_append, List.nil_append] at this
    simp only [List.append_assoc, List.cons_append]
    rw [← this]
    simp [splice]
structure Upd where
  dst : Option Tmp
  t : Option T
  rb : Option Nat
  box : Option (Nat × Box)
def setNth {α : Type} : List α → Nat → α → List α
  | [], _, _ => []
  | _ :: l, 0, x => x :: l
  | y :: l, n + 1, x => y :: setNth l n x
def St.app (st : St) (u : Upd) : St where
  slots := match u.dst with | some d => setNth st.slots d u.t | none => st.slots
  boxes := match u.box with | some p => p :: st.boxes | none => st.boxes
  next := match u.box, u.rb with | some _, none => st.next + 1 | _, _ => st.next
def T.sub (x y : T) : Prop := ∀ C w v, x.rel C w v → y.rel C w v
theorem T.sub_refl (x : T) : T.sub x x := fun _ _ _ h => h
def Out.gets {α : Type} : Out α → α → Prop
  | .fail, _ => False
  | .leaf x, y => x = y
  | .need p k, y => p ∧ k.gets y
  | .chk b k, y => b = true ∧ k.gets y
  | .br b k l, y => (b = true ∧ k.gets y) ∨ (b = false ∧ l.gets y)
/-- A contract, as the evaluator takes it. -/
structure OkCon (P : Program) (f : FuncId) (c : Con) : Prop where
  enter : ∀ vs w, (callFunc f vs).run P w = .ok (.enter f vs) w
  calls : ∀ args t, (c args).gets t → ∀ C w vs, (∀ r, C.S r → r < w.heap.size) → V.hasAll C w args vs → Calls P f (List.toArray vs) w (Makes w fun v w' => T.rel C w' t v)
structure Env.Ok (E : Env) : Prop where
  ty : ∀ t y, look E.ty t = some y → TyOk E.P t y
  con : ∀ f c, look E.con f = some c → OkCon E.P f c
  mixed : E.P.follows .mixedOrders = true
def boxesOf (st : St) : Op → Option Nat
  | .load _ x | .store _ x _ => match st.opd x with
    | some (.one [.ptr b _]) => some b
    | _ => none
  | _ => none
/-- The state's word on a guard. -/
def guardIs (all : Array Oper) (st : St) (o : Oper) (b : Bool) : Prop := match o.guard with
  | none => b = true
  | some (g, want) => ∃ d c, ((all[g]?).bind (·.dst)) = some d ∧ nth st.slots d = some (some (.one [.lit (.bool c)])) ∧ b = (c == want)
def EffUpd (E : Env) (st : St) (u : Upd) : Eff → Prop
  | .val t => u.box = none ∧ ∃ t', u.t = some t' ∧ T.sub t t'
  | .new B => ∃ id, u.rb = none ∧ u.box = some (id, B) ∧ look st.boxes id = none ∧ u.t = some (.one [.ptr id 0])
  | .put b _ _ _ c => u.t = none ∧ ∃ B, look st.boxes b = some B ∧ u.box = some (b, ⟨B.ty, c⟩)
  | .call f args => u.box = none ∧ ∃ con t t', look E.con f = some con ∧ (con args).gets t ∧ u.t = some t' ∧ T.sub t t'
/-- What the operation makes of the state, by the text. -/
def Ev (E : Env) (all : Array Oper) (o : Oper) (st : St) (u : Upd) : Prop :=
  u.dst = o.dst ∧ ((guardIs all st o true ∧ u.rb = boxesOf st o.op ∧ ∃ e, opEval E st o.op = some e ∧ EffUpd E st u e) ∨ (guardIs all st o false ∧ u.t = none ∧ u.box = none ∧ u.rb = none))
structure InvE (S0 : Nat → Prop) (wf : World) (C : Ctx) (st : St) (a : Act) (w : World) : Prop where
  bel : Bel wf w
  defers : a.defers = []
  size : st.slots.length = a.tmps.size
  sees : Sees C w st a
  inj : ∀ b b' r, C.β b = some r → C.β b' = some r → b = b'
  dom : ∀ b, look st.boxes b = none → C.β b = none
  own : ∀ b r, C.β b = some r → C.S r
  lt : ∀ r, C.S r → r < w.heap.size
  base : ∀ b r, C.β b = some r → wf.heap.size ≤ r
  sup : ∀ r, S0 r → C.S r
theorem set_len {α : Type} : ∀ (l : List α) (n : Nat) (x : α), (setNth l n x).length = l.length
  | [], _, _ => rfl
  | _ :: _, 0, _ => rfl
  | _ :: l, n + 1, x => by simp [setNth, set_len l n x]
theorem nth_set {α : Type} : ∀ (l : List α) (n m : Nat) (x : α), nth (setNth l n x) m = if n = m then (if n < l.length then some x else none) else nth l m
  | [], n, m, x => by simp [setNth, nth]
  | y :: l, 0, 0, x => by simp [setNth, nth]
  | y :: l, 0, m + 1, x => by simp [setNth, nth]
  | y :: l, n + 1, 0, x => by simp [setNth, nth]
  | y :: l, n + 1, m + 1, x => by
    simp only [setNth, nth, nth_set l n m x, List.length_cons]
    by_cases h : n = m
    · subst h; simp
    · simp [h]
theorem nth_app (st : St) (u : Upd) (t : Nat) : nth (st.app u).slots t = if u.dst = some t then (if t < st.slots.length then some u.t else none) else nth st.slots t := by
  unfold St.app
  cases hd : u.dst with
  | none => simp
  | some d =>
    simp only [nth_set, Option.some.injEq]
    by_cases h : d = t
    · subst h; simp
    · simp [h]
theorem app_len (st : St) (u : Upd) : (st.app u).slots.length = st.slots.length := by
  unfold St.app
  cases u.dst <;> simp [set_len]
theorem look_app (st : St) (u : Upd) (b : Nat) : look (st.app u).boxes b = match u.box with
    | some (b', B) => if b' = b then some B else look st.boxes b
    | none => look st.boxes b := by
  unfold St.app
  cases hb : u.box with
  | none => rfl
  | some p =>
    obtain ⟨b', B⟩ := p
    simp only [look]
    by_cases h : b' = b
    · simp [h]
    · have : (b' == b) = false := by simp [h]
      simp [this, h]
theorem put_at {a : Act} {d : Option Tmp} {v : Value} {t : Nat} : (a.put d v).tmps[t]? = if d = some t then (if t < a.tmps.size then some v else none) else a.tmps[t]? := by
  cases d with
  | none => simp [Act.put]
  | some d =>
    simp only [Act.put, Option.some.injEq]
    rw [Array.getElem?_setIfInBounds]
    by_cases h : d = t
    · subst h; simp
    · simp [h]
section
variable {E : Env} {S0 : Nat → Prop} {C : Ctx} {w wf : World} {st : St} {a : Act}
theorem InvE.slots_put (h : InvE S0 wf C st a w) {u : Upd} {v : Value} {C' : Ctx} {w' : World} (hs : Stp C.S w w') (hc : Ctx.le w' C C') (hv : ∀ t, u.t = some t → t.rel C' w' v) :
    ∀ t x, nth (st.app u).slots t = some (some x) → ∃ v', (a.put u.dst v).tmps[t]? = some v' ∧ T.rel C' w' x v' := by
  intro t x hx
  rw [nth_app] at hx
  rw [put_at]
  by_cases hd : u.dst = some t
  · rw [if_pos hd] at hx ⊢
    split at hx
    · rename_i hlt
      simp only [Option.some.injEq] at hx
      rw [if_pos (by rw [← h.size]; exact hlt)]
      exact ⟨v, rfl, hv x hx⟩
    · cases hx
  · rw [if_neg hd] at hx ⊢
    obtain ⟨v', h1, h2⟩ := h.sees.slot t x hx
    exact ⟨v', h1, T.rel_le (T.rel_stp h2 hs) hc⟩
theorem InvE.slots_size (h : InvE S0 wf C st a w) (u : Upd) (v : Value) : (st.app u).slots.length = (a.put u.dst v).tmps.size := by
  rw [app_len, h.size]
  exact (put_size a u.dst v).symm
theorem put_defers (a : Act) (d : Option Tmp) (v : Value) : (a.put d v).defers = a.defers := by cases d <;> rfl
theorem InvE.value (h : InvE S0 wf C st a w) {u : Upd} {v : Value} {w' : World} (hb : Bel w w') (hu : u.box = none) (hv : ∀ t, u.t = some t → t.rel C w' v) : InvE S0 wf C (st.app u) (a.put u.dst v) w' where
  bel := h.bel.trans hb
  defers := by rw [put_defers]; exact h.defers
  size := h.slots_size u v
  sees := ⟨h.slots_put (hb.stp _) (Ctx.le_refl _ _) hv, fun b B hB => by
    rw [look_app, hu] at hB
    obtain ⟨r, cs, h1, h2, h3, h4⟩ := h.sees.box b B hB
    exact ⟨r, cs, h1, hb.heap h2, V.rel_stp h3 (hb.stp _), h4⟩⟩
  inj := h.inj
  dom := fun b hB => h.dom b (by rw [look_app, hu] at hB; exact hB)
  own := h.own
  lt := fun r hr => Nat.lt_of_lt_of_le (h.lt r hr) hb.size
  base := h.base
  sup := h.sup
theorem InvE.new (h : InvE S0 wf C st a w) {u : Upd} {id : Nat} {B : Box} {cs : List Value} (hu : u.box = some (id, B)) (ht : u.t = some (.one [.ptr id 0])) (hf : look st.boxes id = none) (hr : B.us.rel C w cs) (hp : ∀ v ∈ cs, plainV v = true) :
    ∃ C', InvE S0 wf C' (st.app u) (a.put u.dst (.pointer (some ⟨w.heap.size, 0, none⟩))) (w.alloc (.cells cs.toArray B.ty)) := by
  have hb : Bel w (w.alloc (.cells cs.toArray B.ty)) := (Bel.refl w).alloc _
  have hnone := h.dom id hf
  let C' : Ctx := ⟨fun r => C.S r ∨ r = w.heap.size, fun i => if i = id then some w.heap.size else C.β i⟩
  have hle0 : ∀ i r, C.β i = some r → C'.β i = some r := fun i r hi => by
    show (if i = id then some w.heap.size else C.β i) = some r
    rw [if_neg (fun e => by rw [e, hnone] at hi; cases hi)]
    exact hi
  have hle : Ctx.le w C C' := ⟨hle0, fun b hb h => h.resolve_right (by omega)⟩
  have hβ : ∀ b r, C'.β b = some r → (b = id ∧ r = w.heap.size) ∨ (b ≠ id ∧ C.β b = some r) := fun b r hr => by
    by_cases hb : b = id
    · left
      have : C'.β b = some w.heap.size := by show (if b = id then _ else _) = _; rw [if_pos hb]
      rw [this] at hr
      cases hr
      exact ⟨hb, rfl⟩
    · right
      have : C'.β b = C.β b := by show (if b = id then _ else _) = _; rw [if_neg hb]
      exact ⟨hb, this ▸ hr⟩
  have hlt : ∀ b r, C.β b = some r → r < w.heap.size := fun b r hr => h.lt r (h.own b r hr)
  have hrel : ∀ {t : T} {v : Value}, t.rel C w v → t.rel C' (w.alloc (.cells cs.toArray B.ty)) v := fun ht => T.rel_stp (T.rel_le ht hle) (hb.stp _)
  refine ⟨C', h.bel.trans hb, by rw [put_defers]; exact h.defers, h.slots_size u _, ⟨?_, ?_⟩, ?_, ?_, ?_, ?_, ?_, fun r hr => .inl (h.sup r hr)⟩
  · intro t x hx
    rw [nth_app] at hx
    rw [put_at]
    by_cases hd : u.dst = some t
    · rw [if_pos hd] at hx ⊢
      split at hx
      · rename_i hl
        rw [ht] at hx
        simp only [Option.some.injEq] at hx
        subst hx
        rw [if_pos (by rw [← h.size]; exact hl)]
        exact ⟨_, rfl, one_of ⟨w.heap.size, by show (if id = id then _ else _) = _; rw [if_pos rfl], rfl⟩⟩
      · cases hx
    · rw [if_neg hd] at hx ⊢
      obtain ⟨v', h1, h2⟩ := h.sees.slot t x hx
      exact ⟨v', h1, hrel h2⟩
  · intro b D hD
    rw [look_app, hu] at hD
    dsimp only at hD
    split at hD
    · rename_i hbi
      cases hD
      exact ⟨w.heap.size, cs, by show (if b = id then _ else _) = _; rw [if_pos hbi.symm], heap_alloc_new w _, V.rel_stp (V.rel_le hr hle) (hb.stp _), hp⟩
    · obtain ⟨r, ds, h1, h2, h3, h4⟩ := h.sees.box b D hD
      exact ⟨r, ds, hle0 _ _ h1, hb.heap h2, V.rel_stp (V.rel_le h3 hle) (hb.stp _), h4⟩
  · intro b b' r hr hr'
    rcases hβ b r hr with ⟨h1, h2⟩ | ⟨h1, h2⟩ <;> rcases hβ b' r hr' with ⟨h3, h4⟩ | ⟨h3, h4⟩
    · rw [h1, h3]
    · have := hlt _ _ h4; omega
    · have := hlt _ _ h2; omega
    · exact h.inj b b' r h2 h4
  · intro b hB
    rw [look_app, hu] at hB
    dsimp only at hB
    split at hB
    · cases hB
    · rename_i hbi
      show (if b = id then _ else _) = _
      rw [if_neg (fun e => hbi e.symm)]
      exact h.dom b hB
  · intro b r hr
    rcases hβ b r hr with ⟨-, h2⟩ | ⟨-, h2⟩
    · exact .inr h2
    · exact .inl (h.own b r h2)
  · intro r hr
    have hsz : (w.alloc (.cells cs.toArray B.ty)).heap.size = w.heap.size + 1 := by simp
    rcases hr with hr | hr
    · have := h.lt r hr; omega
    · omega
  · intro b r hr
    rcases hβ b r hr with ⟨-, h2⟩ | ⟨-, h2⟩
    · rw [h2]; exact h.bel.size
    · exact h.base b r h2
theorem InvE.put (h : InvE S0 wf C st a w) {u : Upd} {b r : Nat} {B : Box} {c : V} {p old s vs : List Value} (hB : look st.boxes b = some B) (hr : C.β b = some r) (hh : w.heap[r]? = some (.cells (List.toArray (p ++ old ++ s)) B.ty (0, 0))) (ho : old.length = vs.length)
    (hc : c.rel C w (p ++ vs ++ s)) (hp : ∀ v ∈ vs, plainV v = true) (hu : u.box = some (b, ⟨B.ty, c⟩)) (ht : u.t = none) : InvE S0 wf C (st.app u) (a.put u.dst undef) (w.setCells r p.length vs) := by
  obtain ⟨r', cs, h1, h2, -, h4⟩ := h.sees.box b B hB
  rw [hr] at h1
  cases h1
  rw [hh] at h2
  simp only [Option.some.injEq, Obj.cells.injEq, Array.mk.injEq, and_true] at h2
  subst h2
  have hsp : splice (p ++ old ++ s) p.length vs = p ++ vs ++ s := splice_mid vs p old s ho
  have hS : Sto wf w (w.setCells r p.length vs) r B.ty (p ++ vs ++ s) := stoM p.length vs (p ++ vs ++ s) hh h.bel (by simpa using hsp) (by simpa using plain_noNum h4) (h.base b r hr)
  have hst : Stp C.S w (w.setCells r p.length vs) := ⟨by
    have := (setCells_only vs p.length w (OnlyG.refl r w)).1
    omega, hS.lim, fun b' o hb' hs => hS.oth b' o (fun e => hs (by rw [e]; exact h.own b r hr)) hb'⟩
  refine ⟨hS.bel, by rw [put_defers]; exact h.defers, h.slots_size u _, ⟨h.slots_put hst (Ctx.le_refl _ _) (fun t hx => by rw [ht] at hx; cases hx), ?_⟩, h.inj, ?_, h.own, ?_, h.base, h.sup⟩
  · intro b' D hD
    rw [look_app, hu] at hD
    dsimp only at hD
    split at hD
    · rename_i hbb
      cases hD
      subst hbb
      exact ⟨r, _, hr, hS.heap, V.rel_stp hc hst, fun v hv => by
        rcases List.mem_append.1 hv with hv | hv
        · rcases List.mem_append.1 hv with hv | hv
          · exact h4 v (by simp [hv])
          · exact hp v hv
        · exact h4 v (by simp [hv])⟩
    · rename_i hbb
      obtain ⟨r', ds, h5, h6, h7, h8⟩ := h.sees.box b' D hD
      exact ⟨r', ds, h5, hS.oth r' _ (fun e => hbb (h.inj b b' r hr (by rw [← e]; exact h5))) h6, V.rel_stp h7 hst, h8⟩
  · intro b' hB'
    rw [look_app, hu] at hB'
    dsimp only at hB'
    split at hB'
    · cases hB'
    · exact h.dom b' hB'
  · intro r' hr'
    have := (setCells_only vs p.length w (OnlyG.refl r w)).1
    have := h.lt r' hr'
    omega
end
section
variable {E : Env} {S0 : Nat → Prop} {C : Ctx} {w wf : World} {st : St} {a : Act} {ops : Array Oper} {Q : Exit → Act → World → Prop}
theorem wanted_of {o : Oper} {b : Bool} (hs : Sees C w st a) (h : guardIs ops st o b) : Region.wanted o (yielded ops a.tmps) = b := by
  unfold guardIs at h
  unfold Region.wanted
  cases hg : o.guard with
  | none => rw [hg] at h; exact h.symm
  | some g =>
    obtain ⟨g, want⟩ := g
    rw [hg] at h
    obtain ⟨d, c, h1, h2, h3⟩ := h
    obtain ⟨v, h4, h5⟩ := hs.slot d _ h2
    have h6 := u_rel h5 rfl
    simp only [U.rel, List.cons.injEq, and_true] at h6
    subst h6
    simp [yielded, h1, h4, h3]
theorem ev_step (hE : E.Ok) (hi : InvE S0 wf C st a w) {o : Oper} {u : Upd} (hv : Ev E ops o st u) {K : Act → World → Prop} (hK : ∀ C' a' w', InvE S0 wf C' (st.app u) a' w' → K a' w') :
    if Region.wanted o (yielded ops a.tmps) = true then Oper.wp E.P o a w K Q else K (a.put o.dst undef) w := by
  obtain ⟨hd, ⟨hg, hrb, e, he, hu⟩ | ⟨hg, h1, h2, h3⟩⟩ := hv
  · rw [if_pos (wanted_of hi.sees hg)]
    have hdo := opEval_does hE.ty hi.sees hi.lt he
    unfold Oper.wp
    cases e with
    | val t =>
      obtain ⟨v, w', h1, h0, h2⟩ := hdo
      obtain ⟨h3, t', h4, h5⟩ := hu
      rw [h1, Oper.upon_value, ← hd]
      exact hK C _ _ (hi.value h0 h3 (fun t hx => by rw [h4] at hx; cases hx; exact h5 C w' v h2))
    | new B =>
      obtain ⟨cs, h1, h2, h3⟩ := hdo
      obtain ⟨id, h4, h5, h6, h7⟩ := hu
      rw [h1, Oper.upon_value, ← hd]
      obtain ⟨C', hC⟩ := hi.new h5 h7 h6 h2 h3
      exact hK C' _ _ hC
    | put b off n x c =>
      obtain ⟨B, r, p, old, s, vs, h1, h2, h3, h4, h5, h6, h7, h8⟩ := hdo
      obtain ⟨h9, B', h10, h11⟩ := hu
      rw [h1] at h10
      cases h10
      rw [h8, Oper.upon_skip, ← hd, ← h4]
      exact hK C _ _ (hi.put h1 h2 h3 h5 h6 h7 h11 h9)
    | call f args =>
      obtain ⟨vs, h1, h2⟩ := hdo
      obtain ⟨h3, con, t, t', h4, h5, h7, h8⟩ := hu
      have hc := hE.con f con h4
      rw [h1, hc.enter, Oper.upon_enter, ← hd]
      refine (hc.calls args t h5 C w vs hi.lt h2).mono ?_
      rintro e w' ⟨v, rfl, hb, hr⟩
      exact hK C _ _ (hi.value hb h3 (fun t hx => by rw [h7] at hx; cases hx; exact h8 C w' v hr))
  · rw [if_neg (by rw [wanted_of hi.sees hg]; simp), ← hd]
    exact hK C _ _ (hi.value (Bel.refl w) h2 (fun t hx => by rw [h1] at hx; cases hx))
/-- The operations' makings, one behind the other. -/
def Path (E : Env) (all : Array Oper) : List Oper → St → List Upd → Prop
  | [], _, us => us = []
  | o :: os, st, us => ∃ u r, us = u :: r ∧ Ev E all o st u ∧ Path E all os (st.app u) r
theorem path_text (hE : E.Ok) : ∀ (os : List Oper) {C : Ctx} {st : St} {us : List Upd} {a : Act} {w : World}, Path E ops os st us → InvE S0 wf C st a w → (∀ C a w, InvE S0 wf C (us.foldl St.app st) a w → Q .normal a w) → wpList E.P ops Q os a w
  | [], C, st, us, a, w, hp, hi, hQ => by
    simp only [Path] at hp
    subst hp
    exact hQ C a w hi
  | o :: os, C, st, us, a, w, hp, hi, hQ => by
    obtain ⟨u, r, rfl, hv, hp'⟩ := hp
    have := ev_step (Q := Q) hE hi hv (K := wpList E.P ops Q os) (fun C' a' w' hi' => path_text hE os hp' hi' hQ)
    simp only [wpList]
    split
    · rename_i h; rw [if_pos h] at this; exact .inl this
    · rename_i h; rw [if_neg h] at this; exact this
/-! ### In any order -/
def mfold : St → List Upd → (Nat → Bool) → Nat → St
  | st, [], _, _ => st
  | st, u :: us, f, i => mfold (bif f i then st.app u else st) us f (i + 1)
theorem mfold_len : ∀ (us : List Upd) (st : St) (f : Nat → Bool) (i : Nat), (mfold st us f i).slots.length = st.slots.length
  | [], _, _, _ => rfl
  | u :: us, st, f, i => by
    rw [mfold, mfold_len us]
    cases f i <;> simp [app_len]
theorem mfold_slot : ∀ (us : List Upd) (st st' : St) (f g : Nat → Bool) (i t : Nat), st.slots.length = st'.slots.length → nth st.slots t = nth st'.slots t → (∀ k u, us[k]? = some u → u.dst = some t → f (i + k) = g (i + k)) →
    nth (mfold st us f i).slots t = nth (mfold st' us g i).slots t
  | [], _, _, _, _, _, _, _, h, _ => h
  | u :: us, st, st', f, g, i, t, hl, h, hd => by
    simp only [mfold]
    refine mfold_slot us _ _ f g (i + 1) t ?_ ?_ (fun k u' hk hu => by have := hd (k + 1) u' (by simpa using hk) hu; rwa [show i + (k + 1) = i + 1 + k by omega] at this)
    · cases f i <;> cases g i <;> simp [app_len, hl]
    · by_cases ht : u.dst = some t
      · have h0 := hd 0 u (by simp) ht
        rw [Nat.add_zero] at h0
        rw [h0]
        cases g i
        · exact h
        · simp only [cond_true, nth_app, hl, ht, if_true]
      · have hp : ∀ s : St, nth (s.app u).slots t = nth s.slots t := fun s => by rw [nth_app, if_neg ht]
        cases f i <;> cases g i <;> simp [hp, h]
def Upd.at (u : Upd) (b : Nat) : Prop := ∃ B, u.box = some (b, B)
theorem mfold_box : ∀ (us : List Upd) (st st' : St) (f g : Nat → Bool) (i b : Nat), look st.boxes b = look st'.boxes b → (∀ k u, us[k]? = some u → u.at b → f (i + k) = g (i + k)) →
    look (mfold st us f i).boxes b = look (mfold st' us g i).boxes b
  | [], _, _, _, _, _, _, h, _ => h
  | u :: us, st, st', f, g, i, b, h, hd => by
    simp only [mfold]
    refine mfold_box us _ _ f g (i + 1) b ?_ (fun k u' hk hu => by have := hd (k + 1) u' (by simpa using hk) hu; rwa [show i + (k + 1) = i + 1 + k by omega] at this)
    by_cases ht : u.at b
    · have h0 := hd 0 u (by simp) ht
      rw [Nat.add_zero] at h0
      rw [h0]
      obtain ⟨B, hB⟩ := ht
      cases g i
      · exact h
      · simp only [cond_true, look_app, hB, if_true]
    · have hp : ∀ s : St, look (s.app u).boxes b = look s.boxes b := fun s => by
        rw [look_app]
        cases hb : u.box with
        | none => rfl
        | some p =>
          obtain ⟨b', B⟩ := p
          dsimp only
          rw [if_neg (fun e => ht ⟨B, by rw [hb, e]⟩)]
      cases f i <;> cases g i <;> simp [hp, h]
theorem mfold_slot_last : ∀ (us : List Upd) (st : St) (f : Nat → Bool) (i j t : Nat) (u : Upd), us[j]? = some u → u.dst = some t → f (i + j) = true → (∀ k u', j < k → us[k]? = some u' → u'.dst = some t → f (i + k) = false) →
    nth (mfold st us f i).slots t = if t < st.slots.length then some u.t else none
  | [], _, _, _, _, _, _, h, _, _, _ => by simp at h
  | v :: us, st, f, i, 0, t, u, h, hd, hf, hl => by
    simp only [List.getElem?_cons_zero, Option.some.injEq] at h
    subst h
    rw [Nat.add_zero] at hf
    simp only [mfold, hf, cond_true]
    rw [mfold_slot us (st.app v) (st.app v) f (fun _ => false) (i + 1) t rfl rfl (fun k u' hk hu => by have := hl (k + 1) u' (by omega) (by simpa using hk) hu; rwa [show i + (k + 1) = i + 1 + k by omega] at this)]
    have hn : ∀ (us : List Upd) (st : St) (i : Nat), mfold st us (fun _ => false) i = st := fun us => by
      induction us with
      | nil => intro _ _; rfl
      | cons x xs ih => intro st i; simp only [mfold, cond_false]; exact ih st (i + 1)
    rw [hn, nth_app, if_pos hd]
  | v :: us, st, f, i, j + 1, t, u, h, hd, hf, hl => by
    simp only [mfold]
    rw [mfold_slot_last us _ f (i + 1) j t u (by simpa using h) hd (by rw [show i + 1 + j = i + (j + 1) by omega]; exact hf) (fun k u' hk hku hu => by have := hl (k + 1) u' (by omega) (by simpa using hku) hu; rwa [show i + (k + 1) = i + 1 + k by omega] at this)]
    cases f i <;> simp [app_len]
theorem mfold_box_last : ∀ (us : List Upd) (st : St) (f : Nat → Bool) (i j b : Nat) (u : Upd) (B : Box), us[j]? = some u → u.box = some (b, B) → f (i + j) = true → (∀ k u', j < k → us[k]? = some u' → u'.at b → f (i + k) = false) →
    look (mfold st us f i).boxes b = some B
  | [], _, _, _, _, _, _, _, h, _, _, _ => by simp at h
  | v :: us, st, f, i, 0, b, u, B, h, hd, hf, hl => by
    simp only [List.getElem?_cons_zero, Option.some.injEq] at h
    subst h
    rw [Nat.add_zero] at hf
    simp only [mfold, hf, cond_true]
    rw [mfold_box us (st.app v) (st.app v) f (fun _ => false) (i + 1) b rfl (fun k u' hk hu => by have := hl (k + 1) u' (by omega) (by simpa using hk) hu; rwa [show i + (k + 1) = i + 1 + k by omega] at this)]
    have hn : ∀ (us : List Upd) (st : St) (i : Nat), mfold st us (fun _ => false) i = st := fun us => by
      induction us with
      | nil => intro _ _; rfl
      | cons x xs ih => intro st i; simp only [mfold, cond_false]; exact ih st (i + 1)
    rw [hn, look_app, hd]
    simp
  | v :: us, st, f, i, j + 1, b, u, B, h, hd, hf, hl => by
    simp only [mfold]
    exact mfold_box_last us _ f (i + 1) j b u B (by simpa using h) hd (by rw [show i + 1 + j = i + (j + 1) by omega]; exact hf) (fun k u' hk hku hu => by have := hl (k + 1) u' (by omega) (by simpa using hku) hu; rwa [show i + (k + 1) = i + 1 + k by omega] at this)
theorem mfold_congr : ∀ (us : List Upd) (st : St) (f g : Nat → Bool) (i : Nat), (∀ k, k < us.length → f (i + k) = g (i + k)) → mfold st us f i = mfold st us g i
  | [], _, _, _, _, _ => rfl
  | u :: us, st, f, g, i, h => by
    have h0 := h 0 (by simp)
    rw [Nat.add_zero] at h0
    simp only [mfold, h0]
    exact mfold_congr us _ f g (i + 1) (fun k hk => by have := h (k + 1) (by simpa using hk); rwa [show i + (k + 1) = i + 1 + k by omega] at this)
theorem mfold_take : ∀ (us : List Upd) (st : St) (j i : Nat), (us.take j).foldl St.app st = mfold st us (fun k => decide (k < i + j)) i
  | [], _, _, _ => by simp [mfold]
  | u :: us, st, 0, i => by
    have hn : ∀ (us : List Upd) (st : St) (i : Nat), mfold st us (fun _ => false) i = st := fun us => by
      induction us with
      | nil => intro _ _; rfl
      | cons x xs ih => intro st i; simp only [mfold, cond_false]; exact ih st (i + 1)
    rw [mfold_congr (u :: us) st _ (fun _ => false) i (fun k _ => by simp), hn]
    rfl
  | u :: us, st, j + 1, i => by
    simp only [List.take_succ_cons, List.foldl_cons, mfold]
    rw [mfold_take us (st.app u) j (i + 1)]
    simp only [show i < i + (j + 1) by omega, decide_true, cond_true]
    exact mfold_congr us _ _ _ (i + 1) (fun k _ => by simp only [decide_eq_decide]; omega)
theorem path_at {all : Array Oper} : ∀ (os : List Oper) (st : St) (us : List Upd), Path E all os st us → us.length = os.length ∧ ∀ j o u, os[j]? = some o → us[j]? = some u → Ev E all o ((us.take j).foldl St.app st) u
  | [], st, us, h => by
    simp only [Path] at h
    subst h
    exact ⟨rfl, fun j o u hj => by simp at hj⟩
  | o :: os, st, us, h => by
    obtain ⟨u, r, rfl, h1, h2⟩ := h
    obtain ⟨h3, h4⟩ := path_at os (st.app u) r h2
    refine ⟨by simp [h3], fun j o' u' hj hu => ?_⟩
    cases j with
    | zero =>
      simp only [List.getElem?_cons_zero, Option.some.injEq] at hj hu
      subst hj hu
      exact h1
    | succ j => exact h4 j o' u' (by simpa using hj) (by simpa using hu)
end
end Go.Proofs.YtafmfnpjhhaikaaGreatDoor
