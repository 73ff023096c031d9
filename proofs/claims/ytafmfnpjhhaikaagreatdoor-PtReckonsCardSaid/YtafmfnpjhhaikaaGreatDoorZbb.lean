/-
  Which fractions that came in are the document's: limb by limb. No program in this text.
-/
import Derived.Test.YtafmfnpjhhaikaaGreatDoorZba
import Derived.Test.YtafmfnpjhhaikaaGreatDoorZax
import Derived.Test.YtafmfnpjhhaikaaGreatDoorZat
namespace Go.Proofs.YtafmfnpjhhaikaaGreatDoor
open Go.RowKit Go.Shelf
def goodL (s : Bool) (l m : List Nat) : Bool := goodZ s l && decide (trimL m = m) && decide (0 < m.length) && (cmpN (Nat.gcd (valB B64 l) (valB B64 m)) 1 == 0)
theorem cmpN_eq {x y : Nat} : (cmpN x y == 0) = decide (x = y) := by
  unfold cmpN
  by_cases h : x < y
  · rw [if_pos h, decide_eq_false (by omega)]
    rfl
  · by_cases h0 : x = y
    · rw [if_neg h, if_pos h0, decide_eq_true h0]
      rfl
    · rw [if_neg h, if_neg h0, decide_eq_false h0]
      rfl
theorem good_lims {s : Bool} {l m : List Nat} (hl : AllB B64 l) (hm : AllB B64 m) :
    goodL s l m = decide (s = decide ((ratOf s (valB B64 l) (valB B64 m)).num < 0) ∧ l = limB B64 (ratOf s (valB B64 l) (valB B64 m)).num.natAbs ∧ m = limB B64 (ratOf s (valB B64 l) (valB B64 m)).den) := by
  rw [Bool.eq_iff_iff, decide_eq_true_eq]
  unfold goodL goodZ
  simp only [Bool.and_eq_true, decide_eq_true_eq, Bool.or_eq_true, Bool.not_eq_true', cmpN_eq]
  obtain ⟨n, hn⟩ : ∃ n, valB B64 l = n := ⟨_, rfl⟩
  obtain ⟨d, hd⟩ : ∃ d, valB B64 m = d := ⟨_, rfl⟩
  have e1 := lim_val b64_two hl
  have e2 := lim_val b64_two hm
  rw [hn] at e1
  rw [hd] at e2
  rw [hn, hd]
  constructor
  · rintro ⟨⟨⟨⟨h1, h2⟩, h3⟩, h4⟩, h5⟩
    rw [h1] at e1
    rw [h3] at e2
    have d0 : d ≠ 0 := fun e => by
      rw [e, lim_zero] at e2
      rw [← e2] at h4
      cases h4
    unfold ratOf
    rw [if_neg d0]
    obtain ⟨p1, p2, p3⟩ := mk_parts (sgnI s n) d0
    rw [sgn_abs, h5, Nat.div_one] at p1
    rw [sgn_abs, h5, Nat.div_one] at p2
    refine ⟨?_, by rw [p1]; exact e1.symm, by rw [p2]; exact e2.symm⟩
    have e3 : decide ((mkRat (sgnI s n) d).num < 0) = decide (sgnI s n < 0) := decide_eq_decide.2 p3
    rw [e3]
    cases s with
    | false => simp [sgnI]
    | true =>
      have n0 : n ≠ 0 := fun e => by
        rw [e, lim_zero] at e1
        rw [← e1] at h2
        simp at h2
      simp [sgnI]
      omega
  · obtain ⟨q, hq⟩ : ∃ q, ratOf s n d = q := ⟨_, rfl⟩
    rw [hq]
    rintro ⟨h1, h2, h3⟩
    have n1 : n = q.num.natAbs := by rw [← hn, h2, val_lim b64_two]
    have d1 : d = q.den := by rw [← hd, h3, val_lim b64_two]
    have hne : ∀ x, x ≠ 0 → 0 < (limB B64 x).length := fun x hx => Nat.pos_of_ne_zero fun e => hx ((lim_nil b64_two).1 (List.length_eq_zero_iff.1 e))
    refine ⟨⟨⟨⟨by rw [h2]; exact trim_lim b64_two _, ?_⟩, by rw [h3]; exact trim_lim b64_two _⟩, by rw [h3]; exact hne _ q.den_nz⟩, by rw [n1, d1]; exact q.reduced⟩
    cases s with
    | false => exact .inl rfl
    | true =>
      refine .inr ?_
      rw [h2]
      refine hne _ fun e => ?_
      have := of_decide_eq_true h1.symm
      omega
/-! ### Contracts -/
theorem rats2_tree (s s' : Bool) (l m l' m' : List Nat) : (exFn (envOf consZ0) Tryz.f78 [[.sym (.bool s), .li l 30, .li m 30], [.sym (.bool s'), .li l' 30, .li m' 30]]).clean = .br (s == s') (.br (decide (l = l')) (.leaf (.one [.sym (.bool (decide (m = m')))])) (.leaf (.one [.lit (.bool false)]))) (.leaf (.one [.lit (.bool false)])) := by kernel_rfl
theorem good2_tree (s : Bool) (l m : List Nat) : (exFn (envOf consZ0) Tryz.f86 [[.sym (.bool s), .li l 30, .li m 30]]).clean = .br (goodZ s l) (.br (decide (trimL m = m)) (.br (decide ((m.length : Int) > 0)) (.leaf (.one [.sym (.bool (cmpN ((valB B64 l).gcd (valB B64 m)) 1 == 0))])) (.leaf (.one [.lit (.bool false)]))) (.leaf (.one [.lit (.bool false)]))) (.leaf (.one [.lit (.bool false)])) := by kernel_rfl
theorem tree_callsZ {E : Env} (hE : E.Ok) {f : FuncId} {fn : Func} (hf : E.P.funcs[f]? = some fn) {args : List V} {o : Out T} {t : T} (he : (exFn E fn args).clean = o) (h : o.gets t) {C : Ctx} {w : World} {vs : List Value} (hlt : ∀ r, C.S r → r < w.heap.size) (ha : V.hasAll C w args vs) :
    Calls E.P f (List.toArray vs) w (Makes w fun v w' => T.rel C w' t v) := by
  subst he
  exact fn_calls hE hf (clean_gets h) hlt ha
theorem bool_one {C : Ctx} {w : World} {a b : Bool} {v : Value} (h : T.rel C w (.one [.sym (.bool a)]) v) (he : b = a) : T.rel C w (.one [.sym (.bool b)]) v := he ▸ h
theorem li3_mono {C : Ctx} {w : World} {s : Bool} {l m : List Nat} {i j : Nat} {v : Value} (h : V.has C w [.sym (.bool s), .li l i, .li m i] v) (hi : i ≤ j) : V.has C w [.sym (.bool s), .li l j, .li m j] v := by
  obtain ⟨cs, ⟨c1, c2, rfl, h1, c3, c4, rfl, ⟨v1, rfl, h2⟩, c5, c6, rfl, ⟨v2, rfl, h3⟩, h4⟩, rfl⟩ := h
  simp only [V.rel] at h4
  subst h4
  exact ⟨_, ⟨c1, _, rfl, h1, [_], _, rfl, ⟨_, rfl, h2.mono hi⟩, [_], [], rfl, ⟨_, rfl, h3.mono hi⟩, rfl⟩, rfl⟩
def cRats2 : Con
  | [x, y] => match lim3 x, lim3 y with | some (s, l, m, i), some (s', l', m', j) => .chk (i.ble 30 && j.ble 30) (.leaf (.one [.sym (.bool (decide (s = s' ∧ l = l' ∧ m = m')))])) | _, _ => .fail
  | _ => .fail
theorem ok_rats2 : OkCon Tryz.prog 78 cRats2 := ⟨fun vs w => Go.MuLone.run_callFunc_enter Tryz.func78 rfl rfl vs w, fun args t hg C w vs hlt ha => by
  unfold cRats2 at hg
  split at hg
  · split at hg
    · rename_i s l m i s' l' m' j hx hy
      obtain ⟨hb, rfl⟩ := hg
      simp only [Bool.and_eq_true] at hb
      obtain ⟨a, b, rfl, h1, h2⟩ := all2 ha
      have ha' : V.hasAll C w [[.sym (.bool s), .li l 30, .li m 30], [.sym (.bool s'), .li l' 30, .li m' 30]] [a, b] := ⟨a, [b], rfl, li3_mono (lim3_has hx h1) (Nat.le_of_ble_eq_true hb.1), b, [], rfl, li3_mono (lim3_has hy h2) (Nat.le_of_ble_eq_true hb.2), rfl⟩
      have key := fun t ht => tree_callsZ (t := t) (envOf_ok consZ0_ok) Tryz.func78 (rats2_tree s s' l m l' m') ht hlt ha'
      by_cases k1 : s = s'
      · by_cases k2 : l = l'
        · exact (key _ (.inl ⟨by rw [k1]; exact beq_self_eq_true _, .inl ⟨decide_eq_true k2, rfl⟩⟩)).mono fun _ _ h => h.imp fun _ h => bool_one h (decide_eq_decide.2 ⟨fun h => h.2.2, fun h => ⟨k1, k2, h⟩⟩)
        · exact (key _ (.inl ⟨by rw [k1]; exact beq_self_eq_true _, .inr ⟨decide_eq_false k2, rfl⟩⟩)).mono fun _ _ h => h.imp fun _ h => bool_one (a := false) h (decide_eq_false fun h => k2 h.2.1)
      · exact (key _ (.inr ⟨beq_eq_false_iff_ne.2 k1, rfl⟩)).mono fun _ _ h => h.imp fun _ h => bool_one (a := false) h (decide_eq_false fun h => k1 h.1)
    · exact hg.elim
  · exact hg.elim⟩
def cGood2 : Con
  | [x] => match lim3 x with | some (s, l, m, i) => .chk (i.ble 30) (.leaf (.one [.sym (.bool (goodL s l m))])) | _ => .fail
  | _ => .fail
theorem ok_good2 : OkCon Tryz.prog 86 cGood2 := ⟨fun vs w => Go.MuLone.run_callFunc_enter Tryz.func86 rfl rfl vs w, fun args t hg C w vs hlt ha => by
  unfold cGood2 at hg
  split at hg
  · split at hg
    · rename_i s l m i hx
      obtain ⟨hb, rfl⟩ := hg
      obtain ⟨a, rfl, h1⟩ := all1 ha
      have ha' : V.hasAll C w [[.sym (.bool s), .li l 30, .li m 30]] [a] := ⟨a, [], rfl, li3_mono (lim3_has hx h1) (Nat.le_of_ble_eq_true hb), rfl⟩
      have key := fun t ht => tree_callsZ (t := t) (envOf_ok consZ0_ok) Tryz.func86 (good2_tree s l m) ht hlt ha'
      unfold goodL
      by_cases k1 : goodZ s l = true
      · by_cases k2 : trimL m = m
        · by_cases k3 : 0 < m.length
          · refine (key _ (.inl ⟨k1, .inl ⟨decide_eq_true k2, .inl ⟨decide_eq_true (by omega), rfl⟩⟩⟩)).mono fun _ _ h => h.imp fun _ h => bool_one h ?_
            simp [k1, k2, k3]
          · refine (key _ (.inl ⟨k1, .inl ⟨decide_eq_true k2, .inr ⟨decide_eq_false (by omega), rfl⟩⟩⟩)).mono fun _ _ h => h.imp fun _ h => bool_one (a := false) h ?_
            simp [k3]
        · refine (key _ (.inl ⟨k1, .inr ⟨decide_eq_false k2, rfl⟩⟩)).mono fun _ _ h => h.imp fun _ h => bool_one (a := false) h ?_
          simp [k2]
      · refine (key _ (.inr ⟨by simpa using k1, rfl⟩)).mono fun _ _ h => h.imp fun _ h => bool_one (a := false) h ?_
        simp [show goodZ s l = false by simpa using k1]
    · exact hg.elim
  · exact hg.elim⟩
def cRats3 : Con
  | [[.rat q i], [.rat r j]] => cRats [[.rat q i], [.rat r j]]
  | a => cRats2 a
theorem ok_rats3 : OkCon Tryz.prog 78 cRats3 := ⟨ok_rats.enter, fun args t hg C w vs hlt ha => by
  unfold cRats3 at hg
  split at hg
  · exact ok_rats.calls _ _ hg C w vs hlt ha
  · exact ok_rats2.calls _ _ hg C w vs hlt ha⟩
noncomputable def consZ1 := (78, cRats3) :: (86, cGood2) :: consZ0
theorem consZ1_ok : AllCon Tryz.prog consZ1 := ⟨ok_rats3, ok_good2, consZ0_ok⟩
/-! ### Points -/
def lim6 (x : V) : Option ((Bool × List Nat × List Nat × Nat) × (Bool × List Nat × List Nat × Nat)) := match V.takeN x 3, V.dropN x 3 with
  | some a, some b => match lim3 a, lim3 b with | some p, some q => some (p, q) | _, _ => none
  | _, _ => none
def uL (p : Bool × List Nat × List Nat) : V := [.sym (.bool p.1), .li p.2.1 30, .li p.2.2 30]
theorem lim6_has {C : Ctx} {w : World} {x : V} {p q : Bool × List Nat × List Nat × Nat} {v : Value} (h : lim6 x = some (p, q)) (hr : x.has C w v) (h1 : p.2.2.2 ≤ 30) (h2 : q.2.2.2 ≤ 30) : V.has C w (uL (p.1, p.2.1, p.2.2.1) ++ uL (q.1, q.2.1, q.2.2.1)) v := by
  obtain ⟨cs, hr, rfl⟩ := hr
  unfold lim6 at h
  split at h
  · rename_i a b ha hb
    split at h
    · rename_i p' q' hp hq
      cases h
      obtain ⟨k1, k2⟩ := V.takeN_rel hr ha
      obtain ⟨-, k3⟩ := V.dropN_rel hr hb
      obtain ⟨s, l, m, i⟩ := p
      obtain ⟨s', l', m', j⟩ := q
      have e : ∀ {y : V} {s : Bool} {l m : List Nat} {i : Nat} {ds : List Value}, lim3 y = some (s, l, m, i) → y.rel C w ds → i ≤ 30 → V.rel C w (uL (s, l, m)) ds ∧ ds.length = 3 := fun {y s l m i ds} hy hd hi => by
        obtain ⟨es, g1, g2⟩ := li3_mono (lim3_has hy ⟨ds, hd, rfl⟩) hi
        have hl : es.length = 3 := V.rel_len g1
        have hl2 : ds.length = 3 := by
          rw [V.rel_len hd]
          unfold lim3 at hy
          split at hy
          · rfl
          · rfl
          · split at hy
            · rename_i u l' i' m' j' _ s' hs
              have : u.size = 1 := by unfold boolU at hs; split at hs <;> first | rfl | cases hs
              show u.size + _ = 3
              rw [this]
              rfl
            · cases hy
          · cases hy
        have : ds = es := by
          rw [pack_agg (by omega), pack_agg (by omega)] at g2
          simpa using g2
        rw [this]
        exact ⟨g1, hl⟩
      obtain ⟨g1, g2⟩ := e hp k2 h1
      obtain ⟨g3, g4⟩ := e hq k3 h2
      refine ⟨cs, ?_, rfl⟩
      have := V.rel_append g1 g3
      rwa [List.take_append_drop] at this
    · cases h
  · cases h
def eqL (p q : Bool × List Nat × List Nat) : Bool := decide (p.1 = q.1 ∧ p.2.1 = q.2.1 ∧ p.2.2 = q.2.2)
theorem pts2_tree (p q p' q' : Bool × List Nat × List Nat) : (exFn (envOf consZ1) Tryz.f18 [uL p ++ uL q, uL p' ++ uL q']).clean = .br (eqL p p') (.leaf (.one [.sym (.bool (eqL q q'))])) (.leaf (.one [.lit (.bool false)])) := by kernel_rfl
theorem pgood_tree (p q : Bool × List Nat × List Nat) : (exFn (envOf consZ1) Tryz.f36 [uL p ++ uL q]).clean = .br (goodL p.1 p.2.1 p.2.2) (.leaf (.one [.sym (.bool (goodL q.1 q.2.1 q.2.2))])) (.leaf (.one [.lit (.bool false)])) := by kernel_rfl
theorem ptsr_tree (a b c d : Rat) : (exFn (envOf consZ1) Tryz.f18 [[.rat a 1000, .rat b 1000], [.rat c 1000, .rat d 1000]]).clean = .br (decide (a = c)) (.leaf (.one [.sym (.bool (decide (b = d)))])) (.leaf (.one [.lit (.bool false)])) := by kernel_rfl
theorem rat2_mono {C : Ctx} {w : World} {q r : Rat} {i j m : Nat} {v : Value} (h : V.has C w [.rat q i, .rat r j] v) (hi : i ≤ m) (hj : j ≤ m) (hm : m ≤ LimK) : V.has C w [.rat q m, .rat r m] v := by
  obtain ⟨cs, ⟨c1, c2, rfl, ⟨a, b, c, rfl, h1, -⟩, c3, c4, rfl, ⟨a', b', c', rfl, h2, -⟩, h3⟩, rfl⟩ := h
  simp only [V.rel] at h3
  subst h3
  exact ⟨_, ⟨[a, b, c], _, rfl, ⟨a, b, c, rfl, ⟨h1.1, h1.2.mono hi⟩, hm⟩, [a', b', c'], [], rfl, ⟨a', b', c', rfl, ⟨h2.1, h2.2.mono hj⟩, hm⟩, rfl⟩, rfl⟩
def cut3 (p : Bool × List Nat × List Nat × Nat) : Bool × List Nat × List Nat := (p.1, p.2.1, p.2.2.1)
def cPts3 : Con
  | [[.rat a i, .rat b j], [.rat c k, .rat d l]] => .chk (i.ble 1000 && j.ble 1000 && k.ble 1000 && l.ble 1000) (.leaf (.one [.sym (.bool (decide (a = c ∧ b = d)))]))
  | [x, y] => match lim6 x, lim6 y with | some (p, q), some (p', q') => .chk (p.2.2.2.ble 30 && q.2.2.2.ble 30 && p'.2.2.2.ble 30 && q'.2.2.2.ble 30) (.leaf (.one [.sym (.bool (eqL (cut3 p) (cut3 p') && eqL (cut3 q) (cut3 q')))])) | _, _ => .fail
  | _ => .fail
theorem ok_pts3 : OkCon Tryz.prog 18 cPts3 := ⟨fun vs w => Go.MuLone.run_callFunc_enter Tryz.func18 rfl rfl vs w, fun args t hg C w vs hlt ha => by
  unfold cPts3 at hg
  split at hg
  · rename_i a i b j c k d l
    obtain ⟨hb, rfl⟩ := hg
    simp only [Bool.and_eq_true] at hb
    obtain ⟨u, v, rfl, h1, h2⟩ := all2 ha
    have ha' : V.hasAll C w [[.rat a 1000, .rat b 1000], [.rat c 1000, .rat d 1000]] [u, v] := ⟨u, [v], rfl, rat2_mono h1 (Nat.le_of_ble_eq_true hb.1.1.1) (Nat.le_of_ble_eq_true hb.1.1.2) (by decide), v, [], rfl, rat2_mono h2 (Nat.le_of_ble_eq_true hb.1.2) (Nat.le_of_ble_eq_true hb.2) (by decide), rfl⟩
    have key := fun t ht => tree_callsZ (t := t) (envOf_ok consZ1_ok) Tryz.func18 (ptsr_tree a b c d) ht hlt ha'
    by_cases k1 : a = c
    · exact (key _ (.inl ⟨decide_eq_true k1, rfl⟩)).mono fun _ _ h => h.imp fun _ h => bool_one h (decide_eq_decide.2 ⟨fun h => h.2, fun h => ⟨k1, h⟩⟩)
    · exact (key _ (.inr ⟨decide_eq_false k1, rfl⟩)).mono fun _ _ h => h.imp fun _ h => bool_one (a := false) h (decide_eq_false fun h => k1 h.1)
  · rename_i x y _
    split at hg
    · rename_i p q p' q' hx hy
      obtain ⟨hb, rfl⟩ := hg
      simp only [Bool.and_eq_true] at hb
      obtain ⟨u, v, rfl, h1, h2⟩ := all2 ha
      have ha' : V.hasAll C w [uL (cut3 p) ++ uL (cut3 q), uL (cut3 p') ++ uL (cut3 q')] [u, v] := ⟨u, [v], rfl, lim6_has hx h1 (Nat.le_of_ble_eq_true hb.1.1.1) (Nat.le_of_ble_eq_true hb.1.1.2), v, [], rfl, lim6_has hy h2 (Nat.le_of_ble_eq_true hb.1.2) (Nat.le_of_ble_eq_true hb.2), rfl⟩
      have key := fun t ht => tree_callsZ (t := t) (envOf_ok consZ1_ok) Tryz.func18 (pts2_tree (cut3 p) (cut3 q) (cut3 p') (cut3 q')) ht hlt ha'
      cases k1 : eqL (cut3 p) (cut3 p')
      · exact (key _ (.inr ⟨k1, rfl⟩)).mono fun _ _ h => h.imp fun _ h => bool_one (a := false) h rfl
      · exact (key _ (.inl ⟨k1, rfl⟩)).mono fun _ _ h => h.imp fun _ h => bool_one h (Bool.true_and _)
    · exact hg.elim
  · exact hg.elim⟩
def cPgood : Con
  | [x] => match lim6 x with | some (p, q) => .chk (p.2.2.2.ble 30 && q.2.2.2.ble 30) (.leaf (.one [.sym (.bool (goodL p.1 p.2.1 p.2.2.1 && goodL q.1 q.2.1 q.2.2.1))])) | _ => .fail
  | _ => .fail
theorem ok_pgood : OkCon Tryz.prog 36 cPgood := ⟨fun vs w => Go.MuLone.run_callFunc_enter Tryz.func36 rfl rfl vs w, fun args t hg C w vs hlt ha => by
  unfold cPgood at hg
  split at hg
  · split at hg
    · rename_i p q hx
      obtain ⟨hb, rfl⟩ := hg
      simp only [Bool.and_eq_true] at hb
      obtain ⟨u, rfl, h1⟩ := all1 ha
      have ha' : V.hasAll C w [uL (cut3 p) ++ uL (cut3 q)] [u] := ⟨u, [], rfl, lim6_has hx h1 (Nat.le_of_ble_eq_true hb.1) (Nat.le_of_ble_eq_true hb.2), rfl⟩
      have key := fun t ht => tree_callsZ (t := t) (envOf_ok consZ1_ok) Tryz.func36 (pgood_tree (cut3 p) (cut3 q)) ht hlt ha'
      cases k1 : goodL p.1 p.2.1 p.2.2.1
      · exact (key _ (.inr ⟨k1, rfl⟩)).mono fun _ _ h => h.imp fun _ h => bool_one (a := false) h rfl
      · exact (key _ (.inl ⟨k1, rfl⟩)).mono fun _ _ h => h.imp fun _ h => bool_one h (Bool.true_and _)
    · exact hg.elim
  · exact hg.elim⟩
noncomputable def consZ2 : List (FuncId × Con) := (18, cPts3) :: (36, cPgood) :: consZ1
theorem consZ2_ok : AllCon Tryz.prog consZ2 := ⟨ok_pts3, ok_pgood, consZ1_ok⟩
noncomputable def consZ3 := fnsOf consZ2 [(13, Tryz.f13), (20, Tryz.f20)]
theorem consZ3_ok : AllCon Tryz.prog consZ3 := fns_ok consZ2_ok ⟨⟨Tryz.func13, rfl, rfl⟩, ⟨Tryz.func20, rfl, rfl⟩, trivial⟩
def C0 : Ctx := ⟨fun _ => False, fun _ => none⟩
def yes : T := .one [.lit (.bool true)]
def no : T := .one [.lit (.bool false)]
theorem no_yes : (no = yes) = False := by
  refine eq_false fun h => ?_
  simp [no, yes] at h
theorem law_calls {E : Env} (hE : E.Ok) {f : FuncId} {fn : Func} {w : World} (hf : E.P.funcs[f]? = some fn) {args : List V} {vs : List Value} {o : Out T} (he : (exFn E fn args).clean = o) (h : o.holds (· = yes)) (ha : V.hasAll C0 w args vs) :
    Calls E.P f (List.toArray vs) w (Makes w fun v _ => v = .bool true) := by
  subst he
  obtain ⟨t, h1, rfl⟩ := holds_gets h
  exact (fn_calls hE hf (clean_gets h1) (fun _ (h : False) => h.elim) ha).mono fun _ _ h => h.imp fun v h => by
    have := u_rel h rfl
    simpa [U.rel] using this
/-- A point that came in, of which nothing is known. -/
def Rp.sv (x : Rp) : V := [.sym (.bool x.s1), .sym (.slice x.p1 x.k1 x.c1), .sym (.slice x.q1 x.j1 x.d1), .sym (.bool x.s2), .sym (.slice x.p2 x.k2 x.c2), .sym (.slice x.q2 x.j2 x.d2)]
section
variable {C : Ctx} {w : World}
theorem Rp.sv_rel (x : Rp) : V.rel C w x.sv x.row := ⟨[_], _, rfl, rfl, [_], _, rfl, rfl, [_], _, rfl, rfl, [_], _, rfl, rfl, [_], _, rfl, rfl, [_], [], rfl, rfl, rfl⟩
theorem Rp.v_rel {x : Rp} {X Y : Rat} {k : Nat} (h : PS k w (.agg x.row.toArray) X Y) : V.rel C w (x.v X Y k) x.row := by
  obtain ⟨h1, h2⟩ := PS.split (show PS k w (.agg #[.bool x.s1, .slice x.p1 x.k1 x.c1, .slice x.q1 x.j1 x.d1, .bool x.s2, .slice x.p2 x.k2 x.c2, .slice x.q2 x.j2 x.d2]) X Y from h)
  exact ⟨[_, _, _], _, rfl, ⟨rfl, h1⟩, [_, _, _], [], rfl, ⟨rfl, h2⟩, rfl⟩
theorem has_row {x : V} {cs : List Value} (h : x.rel C w cs) (hl : cs.length ≠ 1) : V.has C w x (.agg cs.toArray) := ⟨cs, h, (pack_agg hl).symm⟩
end
end Go.Proofs.YtafmfnpjhhaikaaGreatDoor
namespace Go.Proofs.YtafmfnpjhhaikaaGreatDoor
open Go.ChangeShapes Go.WideShapes Go.ChangeAt Go.WideMaps Go.WideElems Go.RowKit Go.Deep
theorem ratTypes : Tryz.prog.cellTypes Tryz.prog.depth 26 = some [4, 22, 22] := by kernel_rfl
set_option maxRecDepth 100000 in
theorem opened_rat {H : Type} {enc : TypeId × Value → H} {W : World} {r : Reach} {base : Nat} {v : Value} {d : DataW H} {p : List MemPlace} (h : DataW.Trod enc Tryz.prog W 0 (fun _ => true) true 26 v d p) (hv : Value.okWide Tryz.prog W r base 26 v) :
    ∃ (s : Bool) (p1 : Option Addr) (n1 d1 : Nat) (p2 : Option Addr) (n2 d2 : Nat), v = .agg #[.bool s, .slice p1 n1 d1, .slice p2 n2 d2] ∧ Limbs W p1 n1 d1 ∧ Limbs W p2 n2 d2 := by
  simp only [Value.okWide, Tryz.underlying26] at hv
  obtain ⟨cs, rfl, -, ts, hts, -, hall⟩ := hv
  rw [ratTypes] at hts
  simp only [Option.some.injEq] at hts
  subst hts
  obtain ⟨n, hn⟩ := h
  obtain ⟨s, p1, n1, d1, p2, n2, d2, hx, h1, h2⟩ := rat_open hn
  have hx' : cs = [.bool s, .slice p1 n1 d1, .slice p2 n2 d2].toArray := by
    have : cs.toList = [.bool s, .slice p1 n1 d1, .slice p2 n2 d2] := hx
    rw [← this]
  subst hx'
  have hc : ∀ (i : Nat) (p : Option Addr) (k c : Nat), ([.bool s, .slice p1 n1 d1, .slice p2 n2 d2] : List Value)[i]? = some (.slice p k c) → ([4, 22, 22] : List TypeId)[i % 3]? = some 22 → PlainP p := fun i p k c hi ht => by
    obtain ⟨u', hu, hok⟩ := hall i _ (by rw [List.getElem?_toArray]; exact hi)
    simp only [List.length_cons, List.length_nil, Nat.zero_add, Nat.reduceAdd] at hu
    rw [ht] at hu
    cases hu
    exact plain_cell hok
  exact ⟨s, p1, n1, d1, p2, n2, d2, rfl, ⟨hc 1 _ _ _ rfl rfl, h1⟩, hc 2 _ _ _ rfl rfl, h2⟩
end Go.Proofs.YtafmfnpjhhaikaaGreatDoor
namespace Go.Proofs.YtafmfnpjhhaikaaGreatDoor
open Go.RowKit Go.Shelf
def ptReckonsO (x y : Rp) (l1 m1 l2 m2 : List Nat) (P Q X Y v : Rat) (n1 n2 : Nat) : Out T := .br (![x, y].all (Rp.ok 6)) (.leaf yes) (.br (decide ((n1 : Int) ≤ 6)) (.br (!decide ((n2 : Int) ≤ 6)) (.leaf yes) (.need (y.k1 ≤ 200 ∧ y.j1 ≤ 200) (.need (y.k2 ≤ 200 ∧ y.j2 ≤ 200) (.need (n1 ≤ 200 ∧ n2 ≤ 200) (.br (decide (P + X = P + X ∧ Q + Y = Q + Y)) (.br (decide (P - X = P - X ∧ Q - Y = Q - Y)) (.br (decide (P * v = P * v ∧ Q * v = Q * v)) (.br (decide (P + (X - P) * v = P + (X - P) * v ∧ Q + (Y - Q) * v = Q + (Y - Q) * v)) (.br (decide (P * X + Q * Y = P * X + Q * Y)) (.br (decide (P * Y - Q * X = P * Y - Q * X)) (.br (cmpR P X == 0) (.br (decide (P = X ∧ Q = Y) == (cmpR Q Y == 0)) (.br ((goodL (x.s1, l1, m1, Nat.max 6 6).fst (x.s1, l1, m1, Nat.max 6 6).snd.fst (x.s1, l1, m1, Nat.max 6 6).snd.snd.fst && goodL (x.s2, l2, m2, Nat.max 6 6).fst (x.s2, l2, m2, Nat.max 6 6).snd.fst (x.s2, l2, m2, Nat.max 6 6).snd.snd.fst) == (eqL (cut3 (x.s1, l1, m1, 6)) (cut3 (decide (P.num < 0), limB B64 P.num.natAbs, limB B64 P.den, 6 + 1)) && eqL (cut3 (x.s2, l2, m2, 6)) (cut3 (decide (Q.num < 0), limB B64 Q.num.natAbs, limB B64 Q.den, 6 + 1)))) (.br (eqL (cut3 (x.s1, l1, m1, Nat.max 6 6)) (cut3 (x.s1, l1, m1, 6)) && eqL (cut3 (x.s2, l2, m2, Nat.max 6 6)) (cut3 (x.s2, l2, m2, 6))) (.leaf yes) (.leaf no)) (.leaf no)) (.leaf no)) (.br (decide (P = X ∧ Q = Y) == false) (.br ((goodL (x.s1, l1, m1, Nat.max 6 6).fst (x.s1, l1, m1, Nat.max 6 6).snd.fst (x.s1, l1, m1, Nat.max 6 6).snd.snd.fst && goodL (x.s2, l2, m2, Nat.max 6 6).fst (x.s2, l2, m2, Nat.max 6 6).snd.fst (x.s2, l2, m2, Nat.max 6 6).snd.snd.fst) == (eqL (cut3 (x.s1, l1, m1, 6)) (cut3 (decide (P.num < 0), limB B64 P.num.natAbs, limB B64 P.den, 6 + 1)) && eqL (cut3 (x.s2, l2, m2, 6)) (cut3 (decide (Q.num < 0), limB B64 Q.num.natAbs, limB B64 Q.den, 6 + 1)))) (.br (eqL (cut3 (x.s1, l1, m1, Nat.max 6 6)) (cut3 (x.s1, l1, m1, 6)) && eqL (cut3 (x.s2, l2, m2, Nat.max 6 6)) (cut3 (x.s2, l2, m2, 6))) (.leaf yes) (.leaf no)) (.leaf no)) (.leaf no))) (.leaf no)) (.leaf no)) (.leaf no)) (.leaf no)) (.leaf no)) (.leaf no)))))) (.leaf yes))
set_option maxRecDepth 100000 in
theorem ptReckons_t1 (x y : Rp) (l1 m1 l2 m2 : List Nat) (X Y : Rat) (s : Bool) (p1 : Option Addr) (n1 d1 : Nat) (p2 : Option Addr) (n2 d2 : Nat) (v : Rat) : (exFn (envOf consZ3) Tryz.f3 [[.inp x.s1 (.slice x.p1 x.k1 x.c1) (.slice x.q1 x.j1 x.d1) l1 m1 6, .inp x.s2 (.slice x.p2 x.k2 x.c2) (.slice x.q2 x.j2 x.d2) l2 m2 6], y.v X Y 6, [.raw (.bool s) (.slice p1 n1 d1) (.slice p2 n2 d2) v 6]]).clean = ptReckonsO x y l1 m1 l2 m2 (ratOf x.s1 (valB B64 l1) (valB B64 m1)) (ratOf x.s2 (valB B64 l2) (valB B64 m2)) X Y v n1 n2 := by kernel_rfl
set_option maxRecDepth 100000 in
theorem ptReckons_t0 (x y : Rp) (s : Bool) (p1 : Option Addr) (n1 d1 : Nat) (p2 : Option Addr) (n2 d2 : Nat) : (exFn (envOf consZ3) Tryz.f3 [x.sv, y.sv, [.sym (.bool s), .sym (.slice p1 n1 d1), .sym (.slice p2 n2 d2)]]).clean = .br (![x, y].all (Rp.ok 6)) (.leaf yes) (.br (decide ((n1 : Int) ≤ 6)) (.br (!decide ((n2 : Int) ≤ 6)) (.leaf yes) (.fail)) (.leaf yes)) := by kernel_rfl
theorem eqL_self (p : Bool × List Nat × List Nat) : eqL p p = true := by simp [eqL]
theorem good_eq {s : Bool} {l m : List Nat} (hl : AllB B64 l) (hm : AllB B64 m) : goodL s l m = eqL (s, l, m) (decide ((ratOf s (valB B64 l) (valB B64 m)).num < 0), limB B64 (ratOf s (valB B64 l) (valB B64 m)).num.natAbs, limB B64 (ratOf s (valB B64 l) (valB B64 m)).den) := good_lims hl hm
set_option maxHeartbeats 1000000 in
theorem ptReckons_h1 (x y : Rp) (l1 m1 l2 m2 : List Nat) (P Q X Y v : Rat) (n1 n2 : Nat) (hF : [x, y].all (Rp.ok 6) = true) (hy : (y.k1 ≤ 200 ∧ y.j1 ≤ 200) ∧ (y.k2 ≤ 200 ∧ y.j2 ≤ 200)) (h1 : n1 ≤ 6) (h2 : n2 ≤ 6)
    (g1 : goodL x.s1 l1 m1 = eqL (x.s1, l1, m1) (decide (P.num < 0), limB B64 P.num.natAbs, limB B64 P.den)) (g2 : goodL x.s2 l2 m2 = eqL (x.s2, l2, m2) (decide (Q.num < 0), limB B64 Q.num.natAbs, limB B64 Q.den)) : (ptReckonsO x y l1 m1 l2 m2 P Q X Y v n1 n2).holds (· = yes) := by
  have e1 : (n1 : Int) ≤ 6 := by omega
  have e2 : (n2 : Int) ≤ 6 := by omega
  have e3 : n1 ≤ 200 ∧ n2 ≤ 200 := by omega
  unfold ptReckonsO
  simp only [Out.holds, hF, e1, e2, e3, hy.1, hy.2, g1, g2, cut3, eqL_self, cmp_dec, Bool.and_true, decide_true, beq_self_eq_true, no_yes, Bool.not_true, Bool.false_eq_true, true_and, true_imp_iff, imp_false, implies_true]
  by_cases k1 : P = X <;> by_cases k2 : Q = Y <;> simp [k1, k2]
theorem ptReckons_any (x y : Rp) (s : Bool) (p1 : Option Addr) (n1 d1 : Nat) (p2 : Option Addr) (n2 d2 : Nat) (W : World) (hx : PtIn W x) (hy : PtIn W y) (h1 : Limbs W p1 n1 d1) (h2 : Limbs W p2 n2 d2) : Calls Tryz.prog 3 #[.agg x.row.toArray, .agg y.row.toArray, .agg #[.bool s, .slice p1 n1 d1, .slice p2 n2 d2]] W (Makes W fun v _ => v = .bool true) := by
  have hl : ∀ (x : Rp), x.row.length ≠ 1 := fun x => by simp [Rp.row]
  by_cases hf : [x, y].all (Rp.ok 6) = true ∧ n1 ≤ 6 ∧ n2 ≤ 6
  · obtain ⟨hf, l1, l2⟩ := hf
    have hk : x.ok 6 = true ∧ y.ok 6 = true := by
      simp only [List.all_cons, List.all_nil, Bool.and_eq_true, Bool.and_true] at hf
      exact hf
    have hx6 := hk.1
    have hy6 := hk.2
    unfold Rp.ok at hx6 hy6
    have hx6 := of_decide_eq_true hx6
    have hy6 := of_decide_eq_true hy6
    obtain ⟨X, Y, k1⟩ := hy.ps hk.2
    obtain ⟨v, hv⟩ := rs_of (s := s) (m := 6) h1 h2 l1 l2 (by decide) (by decide)
    obtain ⟨⟨⟨a1, L1, b1, c1⟩, a2, M1, b2, c2⟩, ⟨a3, L2, b3, c3⟩, a4, M2, b4, c4⟩ := hx
    have i1 : LI W (.slice x.p1 x.k1 x.c1) L1 6 := ⟨x.p1, x.c1, by rw [b1], by rw [b1]; exact c1, a1, by omega⟩
    have i2 : LI W (.slice x.q1 x.j1 x.d1) M1 6 := ⟨x.q1, x.d1, by rw [b2], by rw [b2]; exact c2, a2, by omega⟩
    have i3 : LI W (.slice x.p2 x.k2 x.c2) L2 6 := ⟨x.p2, x.c2, by rw [b3], by rw [b3]; exact c3, a3, by omega⟩
    have i4 : LI W (.slice x.q2 x.j2 x.d2) M2 6 := ⟨x.q2, x.d2, by rw [b4], by rw [b4]; exact c4, a4, by omega⟩
    exact law_calls (envOf_ok consZ3_ok) Tryz.func3 (ptReckons_t1 x y L1 M1 L2 M2 X Y s p1 n1 d1 p2 n2 d2 v) (ptReckons_h1 x y L1 M1 L2 M2 _ _ X Y v n1 n2 hf (by omega) l1 l2 (good_eq c1.all c2.all) (good_eq c3.all c4.all))
      ⟨_, _, rfl, has_row (cs := x.row) ⟨[_, _, _], _, rfl, ⟨rfl, i1, i2⟩, [_, _, _], [], rfl, ⟨rfl, i3, i4⟩, rfl⟩ (hl _), _, _, rfl, has_row (Rp.v_rel k1) (hl _), _, _, rfl, ⟨[_, _, _], ⟨[_, _, _], [], rfl, ⟨rfl, hv⟩, rfl⟩, rfl⟩, rfl⟩
  · refine law_calls (envOf_ok consZ3_ok) Tryz.func3 (ptReckons_t0 x y s p1 n1 d1 p2 n2 d2) ?_
      ⟨_, _, rfl, has_row x.sv_rel (hl _), _, _, rfl, has_row y.sv_rel (hl _), _, _, rfl, ⟨[_, _, _], ⟨[_], _, rfl, rfl, [_], _, rfl, rfl, [_], [], rfl, rfl, rfl⟩, rfl⟩, rfl⟩
    refine ⟨fun _ => rfl, fun k1 => ⟨fun k2 => ⟨fun _ => rfl, fun k3 => (hf ⟨by simpa using k1, ?_, ?_⟩).elim⟩, fun _ => rfl⟩⟩
    · have := of_decide_eq_true k2
      omega
    · have : (n2 : Int) ≤ 6 := by simpa using k3
      omega
end Go.Proofs.YtafmfnpjhhaikaaGreatDoor
