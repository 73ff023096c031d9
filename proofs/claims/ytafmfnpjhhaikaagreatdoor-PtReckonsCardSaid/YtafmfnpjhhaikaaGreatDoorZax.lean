/-
  The evaluator's types and its first contracts.
-/
import Derived.Test.YtafmfnpjhhaikaaGreatDoorZaw
import Derived.Test.YtafmfnpjhhaikaaGreatDoorZat
import Derived.Test.YtafmfnpjhhaikaaGreatDoorZas
import Derived.Test.YtafmfnpjhhaikaaGreatDoorZap
namespace Go.Proofs.YtafmfnpjhhaikaaGreatDoor
open Go.RowKit Go.Shelf
def zRat : U := .raw (.bool false) (.slice none 0 0) (.slice none 0 0) 0 1
def zU : Option Value → U
  | some v => .lit v
  | none => zRat
/-- A type's row: its number, its size, its zero value (none: a fraction's three cells), its kind. -/
structure TRow where
  t : TypeId
  size : Nat
  zs : List (Option Value)
  kd : Kd
def TRow.ty (r : TRow) : TypeId × Ty := (r.t, ⟨r.size, r.zs.map zU, r.kd⟩)
def sameV : Value → Value → Bool
  | .bool a, .bool b => a == b
  | .int k x, .int k' y => decide (k = k') && x == y
  | .slice none 0 0, .slice none 0 0 => true
  | .nilFunc, .nilFunc => true
  | .pointer none, .pointer none => true
  | .string ⟨⟨[]⟩⟩, .string ⟨⟨[]⟩⟩ => true
  | _, _ => false
def zcB : List (Option Value) → List Value → Bool
  | [], [] => true
  | some v :: r, c :: cs => sameV v c && zcB r cs
  | none :: r, .bool false :: .slice none 0 0 :: .slice none 0 0 :: cs => zcB r cs
  | _, _ => false
def sizesB (P : Program) : List Field → List Nat → List Nat → Bool
  | [], [], [] => true
  | f :: fs, o :: os, n :: ns => f.offset == o && (match rowAt P f.type with | some (m, b) => m == n && b == !(n == 1) | none => false) && !(n == 0) && sizesB P fs os ns
  | _, _, _ => false
def descB (P : Program) : TypeDesc → Kd → Bool
  | .struct fs, .str offs szs => sizesB P fs.toList offs szs
  | .array n e, .arr m sz => n == m && (match rowAt P e with | some (k, b) => k == sz && b == !(sz == 1) | none => false)
  | .slice e, .slc sz => (match P.info? e with | some i => i.size == sz && i.zero.isSome | none => false)
  | .int k, .int k' => decide (k = k')
  | .bool, .bool => true
  | .struct _, _ | .array _ _, _ => false
  | _, .other => true
  | _, _ => false
def TRow.ok (P : Program) (r : TRow) : Bool := match P.info? r.t, P.underlying r.t with
  | some i, some d => i.size == r.size && (match i.zero with | some z => z.cells.size == r.size && zcB r.zs z.cells.toList | none => false) && descB P d r.kd && (r.kd.row == !(r.size == 1)) && V.fine (r.zs.map zU)
  | _, _ => false
theorem same_of {v c : Value} (h : sameV v c = true) : v = c := by
  unfold sameV at h
  split at h <;> first | rfl | skip
  · simp only [beq_iff_eq] at h; rw [h]
  · simp only [Bool.and_eq_true, decide_eq_true_eq, beq_iff_eq] at h; rw [h.1, h.2]
  · cases h
theorem zc_rel {C : Ctx} {w : World} : ∀ {zs : List (Option Value)} {cs : List Value}, zcB zs cs = true → V.rel C w (zs.map zU) cs
  | [], [], _ => rfl
  | [], _ :: _, h => by simp [zcB] at h
  | some v :: r, [], h => by simp [zcB] at h
  | some v :: r, c :: cs, h => by
    simp only [zcB, Bool.and_eq_true] at h
    obtain rfl := same_of h.1
    exact ⟨[_], cs, rfl, rfl, zc_rel h.2⟩
  | none :: r, cs, h => by
    have key : ∃ ds, cs = .bool false :: .slice none 0 0 :: .slice none 0 0 :: ds ∧ zcB r ds = true := by
      unfold zcB at h
      split at h <;> rename_i he <;> first | (cases he; done) | skip
      · cases he; exact ⟨_, rfl, h⟩
      · cases h
    obtain ⟨ds, rfl, h⟩ := key
    exact ⟨[_, _, _], _, rfl, ⟨rfl, ⟨⟨false, _, _, 0, 0, rfl, ni_nil w, ni_nil w, by decide +kernel⟩, by decide, by decide⟩⟩, zc_rel h⟩
theorem sizes_of {P : Program} : ∀ {fs : List Field} {os ns : List Nat}, sizesB P fs os ns = true → fs.map (·.offset) = os ∧ fs.map (fun f => rowAt P f.type) = ns.map (fun n => some (n, !(n == 1))) ∧ 0 ∉ ns
  | [], [], [], _ => ⟨rfl, rfl, by simp⟩
  | f :: fs, o :: os, n :: ns, h => by
    simp only [sizesB, Bool.and_eq_true, beq_iff_eq, Bool.not_eq_true', beq_eq_false_iff_ne] at h
    obtain ⟨⟨⟨h1, h2⟩, h3⟩, h4⟩ := h
    obtain ⟨h5, h6, h7⟩ := sizes_of h4
    refine ⟨by simp [h1, h5], ?_, by simp [h7, Ne.symm h3]⟩
    split at h2
    · rename_i m b hr
      simp only [Bool.and_eq_true, beq_iff_eq] at h2
      simp [hr, h2.1, h2.2, h6]
    · cases h2
  | [], _ :: _, _, h => by simp [sizesB] at h
  | [], [], _ :: _, h => by simp [sizesB] at h
  | _ :: _, [], _, h => by simp [sizesB] at h
  | _ :: _, _ :: _, [], h => by simp [sizesB] at h
theorem desc_of {P : Program} {d : TypeDesc} {k : Kd} (h : descB P d k = true) : DescOk P d k := by
  cases d <;> cases k <;> simp only [descB] at h <;> first | trivial | (cases h; done) | skip
  case struct.str => exact sizes_of h
  case array.arr =>
    simp only [Bool.and_eq_true, beq_iff_eq] at h
    refine ⟨h.1, ?_⟩
    have h2 := h.2
    split at h2
    · rename_i hr
      simp only [Bool.and_eq_true, beq_iff_eq] at h2
      rw [hr, h2.1, h2.2]
    · cases h2
  case slice.slc =>
    split at h
    · rename_i i hi
      simp only [Bool.and_eq_true, beq_iff_eq] at h
      show (P.info? _).map (fun i => (i.size, i.zero.isSome)) = some (_, true)
      rw [hi]
      simp [h]
    · cases h
  case int.int => simpa [DescOk] using h
theorem TRow.tyOk {P : Program} {r : TRow} (h : r.ok P = true) : TyOk P r.t r.ty.2 := by
  unfold TRow.ok at h
  split at h
  · rename_i i d hi hd
    simp only [Bool.and_eq_true, beq_iff_eq] at h
    obtain ⟨⟨⟨⟨h1, h2⟩, h3⟩, h4⟩, h5⟩ := h
    split at h2
    · rename_i z hz
      simp only [Bool.and_eq_true, beq_iff_eq] at h2
      exact ⟨⟨i, hi, h1, z, hz, h2.1, fun C w => zc_rel h2.2⟩, ⟨d, hd, desc_of h3⟩, h4, h5⟩
    · cases h2
  · cases h
theorem look_mem {α : Type} : ∀ {l : List (Nat × α)} {n : Nat} {x : α}, look l n = some x → (n, x) ∈ l
  | (k, a) :: r, n, x, h => by
    simp only [look] at h
    cases hk : k == n
    · rw [hk] at h; exact List.mem_cons_of_mem _ (look_mem h)
    · rw [hk] at h
      simp only [beq_iff_eq] at hk
      cases h
      rw [hk]
      exact List.mem_cons_self
theorem rows_ok {P : Program} {rs : List TRow} (h : rs.all (TRow.ok P) = true) : ∀ t y, look (rs.map TRow.ty) t = some y → TyOk P t y := fun t y hy => by
  obtain ⟨r, hr, he⟩ := List.mem_map.1 (look_mem hy)
  have := TRow.tyOk (List.all_eq_true.1 h r hr)
  simp only [TRow.ty, Prod.mk.injEq] at he
  obtain ⟨rfl, rfl⟩ := he
  exact this
def AllCon (P : Program) : List (FuncId × Con) → Prop
  | [] => True
  | p :: r => OkCon P p.1 p.2 ∧ AllCon P r
theorem con_ok {P : Program} : ∀ {l : List (FuncId × Con)}, AllCon P l → ∀ f c, look l f = some c → OkCon P f c
  | (g, d) :: r, h, f, c, hl => by
    simp only [look] at hl
    cases hk : g == f
    · rw [hk] at hl; exact con_ok h.2 f c hl
    · rw [hk] at hl
      simp only [beq_iff_eq] at hk
      cases hl
      subst hk
      exact h.1
/-! ### Fractions in contracts -/
def natU : U → Option (Nat × Nat)
  | .nat n k => some (n, k)
  | .lit (.slice none 0 0) => some (0, 0)
  | .li l k => some (valB B64 l, k)
  | _ => none
def boolU : U → Option Bool
  | .lit (.bool b) | .sym (.bool b) => some b
  | _ => none
def asRat : V → Option (Rat × Nat)
  | [.rat q k] | [.rd q k] | [.raw _ _ _ q k] => some (q, k)
  | [.inp s _ _ l m k] => some (ratOf s (valB B64 l) (valB B64 m), k + 1)
  | [u, x, y] => match boolU u, natU x, natU y with
    | some s, some (n, i), some (m, j) => some (ratOf s n m, i + j + 1)
    | _, _, _ => none
  | _ => none
section
variable {C : Ctx} {w : World}
theorem LI.ni {v : Value} {l : List Nat} {k : Nat} (h : LI w v l k) (hk : k < 400000000) : NI w v (valB B64 l) := by
  obtain ⟨p, c, rfl, h1, h2, h3⟩ := h
  exact ⟨p, c, l, rfl, h1, h2, rfl, by omega⟩
theorem LI.lt {v : Value} {l : List Nat} {k : Nat} (h : LI w v l k) : valB B64 l < B64 ^ k := by
  obtain ⟨p, c, rfl, h1, h2, h3⟩ := h
  exact Nat.lt_of_lt_of_le (val_lt h1.all) (Nat.pow_le_pow_right b64_pos h3)
theorem natU_rel {u : U} {n k : Nat} {cs : List Value} (h : natU u = some (n, k)) (hr : u.rel C w cs) (hk : k ≤ LimK) : ∃ v, cs = [v] ∧ NI w v n ∧ n < B64 ^ k := by
  unfold natU at h
  split at h
  · cases h
    obtain ⟨v, rfl, h1, h2⟩ := hr
    exact ⟨v, rfl, h1.ni h2 (by unfold LimK at hk; omega), h2⟩
  · cases h
    simp only [U.rel] at hr
    exact ⟨_, hr, ni_nil w, by decide⟩
  · cases h
    obtain ⟨v, rfl, h1⟩ := hr
    exact ⟨v, rfl, h1.ni (by unfold LimK at hk; omega), h1.lt⟩
  · cases h
theorem boolU_rel {u : U} {b : Bool} {cs : List Value} (h : boolU u = some b) (hr : u.rel C w cs) : cs = [.bool b] := by
  unfold boolU at h
  split at h <;> first | (cases h; exact hr) | cases h
theorem asRat_rel {x : V} {q : Rat} {k : Nat} {v : Value} (h : asRat x = some (q, k)) (hr : x.has C w v) (hk : k ≤ LimK) : RS k w v q := by
  obtain ⟨cs, hr, rfl⟩ := hr
  unfold asRat at h
  split at h
  · cases h
    obtain ⟨c1, c2, rfl, ⟨a, b, c, rfl, h1, h2⟩, h3⟩ := hr
    simp only [V.rel] at h3
    subst h3
    exact h1.rs h2
  · cases h
    obtain ⟨c1, c2, rfl, ⟨a, b, c, rfl, h1⟩, h3⟩ := hr
    simp only [V.rel] at h3
    subst h3
    exact h1
  · cases h
    obtain ⟨c1, c2, rfl, ⟨rfl, h1⟩, h3⟩ := hr
    simp only [V.rel] at h3
    subst h3
    exact h1
  · rename_i s b c l m k
    cases h
    obtain ⟨c1, c2, rfl, ⟨rfl, h1, h2⟩, h3⟩ := hr
    simp only [V.rel] at h3
    subst h3
    have hk' : k < 400000000 := by unfold LimK at hk; omega
    exact ⟨⟨s, b, c, _, _, rfl, h1.ni hk', h2.ni hk', rfl⟩, sz_of (Nat.lt_of_lt_of_le h1.lt (Nat.pow_le_pow_right b64_pos (by omega))) (Nat.lt_of_lt_of_le h2.lt (Nat.pow_le_pow_right b64_pos (by omega))) (by omega)⟩
  · rename_i u a b
    split at h
    · rename_i s n i m j hs hn hm
      cases h
      obtain ⟨c1, c2, rfl, h1, c3, c4, rfl, h2, c5, c6, rfl, h3, h4⟩ := hr
      simp only [V.rel] at h4
      subst h4
      obtain rfl := boolU_rel hs h1
      obtain ⟨v1, rfl, h5, h6⟩ := natU_rel hn h2 (by omega)
      obtain ⟨v2, rfl, h7, h8⟩ := natU_rel hm h3 (by omega)
      exact ⟨⟨s, v1, v2, n, m, rfl, h5, h7, rfl⟩, sz_of (Nat.lt_of_lt_of_le h6 (Nat.pow_le_pow_right b64_pos (by omega))) (Nat.lt_of_lt_of_le h8 (Nat.pow_le_pow_right b64_pos (by omega))) (by omega)⟩
    · cases h
  · cases h
theorem rat_has {q : Rat} {k : Nat} {v : Value} (h : RN k w v q) (hk : k ≤ LimK) : T.rel C w (.one [.rat q k]) v := by
  obtain ⟨s, p, n, c, r, m, d, rfl⟩ := h.parts
  exact ⟨[_, _, _], ⟨[_, _, _], [], rfl, ⟨_, _, _, rfl, h, hk⟩, rfl⟩, rfl⟩
theorem all2 {x y : V} {vs : List Value} (h : V.hasAll C w [x, y] vs) : ∃ a b, vs = [a, b] ∧ x.has C w a ∧ y.has C w b := by
  obtain ⟨a, r, rfl, h1, b, s, rfl, h2, h3⟩ := h
  simp only [V.hasAll] at h3
  subst h3
  exact ⟨a, b, rfl, h1, h2⟩
theorem all1 {x : V} {vs : List Value} (h : V.hasAll C w [x] vs) : ∃ a, vs = [a] ∧ x.has C w a := by
  obtain ⟨a, r, rfl, h1, h3⟩ := h
  simp only [V.hasAll] at h3
  subst h3
  exact ⟨a, rfl, h1⟩
end
def conR1 (F : Rat → Nat → Out T) : Con
  | [x] => match asRat x with | some (q, k) => F q k | none => .fail
  | _ => .fail
def conR2 (F : Rat → Nat → Rat → Nat → Out T) : Con
  | [x, y] => match asRat x, asRat y with | some (q, i), some (r, j) => F q i r j | _, _ => .fail
  | _ => .fail
theorem r1_ok {P : Program} {f : FuncId} {F : Rat → Nat → Out T} (he : ∀ vs w, (callFunc f vs).run P w = .ok (.enter f vs) w)
    (h : ∀ q k t, (F q k).gets t → k ≤ LimK ∧ ∀ C w a, RS k w a q → Calls P f #[a] w (Makes w fun v w' => T.rel C w' t v)) : OkCon P f (conR1 F) := ⟨he, fun args t hg C w vs _ ha => by
  unfold conR1 at hg
  split at hg
  · rename_i x
    split at hg
    · rename_i q k hq
      obtain ⟨a, rfl, h1⟩ := all1 ha
      obtain ⟨h2, h3⟩ := h q k t hg
      exact h3 C w a (asRat_rel hq h1 h2)
    · exact hg.elim
  · exact hg.elim⟩
theorem r2_ok {P : Program} {f : FuncId} {F : Rat → Nat → Rat → Nat → Out T} (he : ∀ vs w, (callFunc f vs).run P w = .ok (.enter f vs) w)
    (h : ∀ q i r j t, (F q i r j).gets t → i ≤ LimK ∧ j ≤ LimK ∧ ∀ C w a b, RS i w a q → RS j w b r → Calls P f #[a, b] w (Makes w fun v w' => T.rel C w' t v)) : OkCon P f (conR2 F) := ⟨he, fun args t hg C w vs _ ha => by
  unfold conR2 at hg
  split at hg
  · rename_i x y
    split at hg
    · rename_i q i r j hq hr
      obtain ⟨a, b, rfl, h1, h2⟩ := all2 ha
      obtain ⟨h3, h4, h5⟩ := h q i r j t hg
      exact h5 C w a b (asRat_rel hq h1 h3) (asRat_rel hr h2 h4)
    · exact hg.elim
  · exact hg.elim⟩
/-! ### rat -/
def cAdd (q : Rat) (i : Nat) (r : Rat) (j : Nat) : Out T := .chk ((i + j).blt LimK) (.leaf (.one [.rat (q + r) (i + j + 1)]))
def cSub (q : Rat) (i : Nat) (r : Rat) (j : Nat) : Out T := .chk ((i + j).blt LimK) (.leaf (.one [.rat (q - r) (i + j + 1)]))
def cMul (q : Rat) (i : Nat) (r : Rat) (j : Nat) : Out T := .chk ((i + j).blt LimK) (.leaf (.one [.rat (q * r) (i + j)]))
def cCmp (q : Rat) (i : Nat) (r : Rat) (j : Nat) : Out T := .chk ((i + j).blt LimK) (.leaf (.one [.sym (.int .i64 (cmpR q r))]))
def cDiv (q : Rat) (i : Nat) (r : Rat) (j : Nat) : Out T := .chk ((i + j).blt LimK) (.br (decide (r = 0)) (.leaf (.tup [[zRat], [.lit (.int .i64 12)]])) (.leaf (.tup [[.rat (q / r) (i + j)], [.lit (.int .i64 0)]])))
def cSign (q : Rat) (i : Nat) : Out T := .chk (i.blt LimK) (.leaf (.one [.sym (.int .i64 (cmpR q 0))]))
def cNeg (q : Rat) (i : Nat) : Out T := .chk (i.blt LimK) (.leaf (.one [.rat (-q) i]))
theorem ok_add : OkCon Tryz.prog 47 (conR2 cAdd) := r2_ok (fun vs w => Go.MuLone.run_callFunc_enter Tryz.func47 rfl rfl vs w) fun q i r j t h => by
  obtain ⟨h1, rfl⟩ := h
  have h1 := Nat.ble_eq.mp h1
  exact ⟨by omega, by omega, fun C w a b ha hb => (au_radd ha hb h1).mono fun _ _ h => h.imp fun _ h => rat_has h (by omega)⟩
theorem ok_sub : OkCon Tryz.prog 49 (conR2 cSub) := r2_ok (fun vs w => Go.MuLone.run_callFunc_enter Tryz.func49 rfl rfl vs w) fun q i r j t h => by
  obtain ⟨h1, rfl⟩ := h
  have h1 := Nat.ble_eq.mp h1
  exact ⟨by omega, by omega, fun C w a b ha hb => (au_rsub ha hb h1).mono fun _ _ h => h.imp fun _ h => rat_has h (by omega)⟩
theorem ok_mul : OkCon Tryz.prog 48 (conR2 cMul) := r2_ok (fun vs w => Go.MuLone.run_callFunc_enter Tryz.func48 rfl rfl vs w) fun q i r j t h => by
  obtain ⟨h1, rfl⟩ := h
  have h1 := Nat.ble_eq.mp h1
  exact ⟨by omega, by omega, fun C w a b ha hb => (au_rmul ha hb h1).mono fun _ _ h => h.imp fun _ h => rat_has h (by omega)⟩
theorem ok_cmp : OkCon Tryz.prog 44 (conR2 cCmp) := r2_ok (fun vs w => Go.MuLone.run_callFunc_enter Tryz.func44 rfl rfl vs w) fun q i r j t h => by
  obtain ⟨h1, rfl⟩ := h
  have h1 := Nat.ble_eq.mp h1
  exact ⟨by omega, by omega, fun C w a b ha hb => (mk_rcmp ha hb h1).mono fun _ _ h => h.imp fun _ h => by subst h; exact one_of rfl⟩
theorem ok_sign : OkCon Tryz.prog 46 (conR1 cSign) := r1_ok (fun vs w => Go.MuLone.run_callFunc_enter Tryz.func46 rfl rfl vs w) fun q i t h => by
  obtain ⟨h1, rfl⟩ := h
  have h1 := Nat.ble_eq.mp h1
  exact ⟨by omega, fun C w a ha => (mk_rsign ha.1).mono fun _ _ h => h.imp fun _ h => by subst h; exact one_of rfl⟩
theorem ok_neg : OkCon Tryz.prog 50 (conR1 cNeg) := r1_ok (fun vs w => Go.MuLone.run_callFunc_enter Tryz.func50 rfl rfl vs w) fun q i t h => by
  obtain ⟨h1, rfl⟩ := h
  have h1 := Nat.ble_eq.mp h1
  exact ⟨by omega, fun C w a ha => (au_rneg ha h1).mono fun _ _ h => h.imp fun _ h => rat_has h (by omega)⟩
def z1 : List (Option Value) := [none]
def rowsE : List TRow := [⟨4, 1, [some (.bool false)], .bool⟩, ⟨3, 1, [some (.int .i64 0)], .int .i64⟩, ⟨2, 1, [some (.int .i64 0)], .int .i64⟩, ⟨5, 1, [some (.int .u8 0)], .int .u8⟩,
  ⟨9, 1, [some (.string ⟨⟨[]⟩⟩)], .other⟩, ⟨22, 1, [some (.slice none 0 0)], .slc 1⟩, ⟨24, 2, [some (.bool false), some (.slice none 0 0)], .str [0, 1] [1, 1]⟩, ⟨26, 3, [none], .str [0, 2] [2, 1]⟩,
  ⟨28, 6, [none, none], .str [0, 3] [3, 3]⟩, ⟨72, 18, [none, none, none, none, none, none], .str [0, 3, 6, 9, 12, 15] [3, 3, 3, 3, 3, 3]⟩, ⟨65, 18, [none, none, none, none, none, none], .arr 3 6⟩,
  ⟨77, 1, [some (.int .i64 0)], .int .i64⟩, ⟨100, 1, [some (.slice none 0 0)], .slc 6⟩,
  ⟨92, 6, [some (.int .i64 0), some (.int .i64 0), some (.int .i64 0), some (.int .i64 0), some (.int .i64 0), some (.int .i64 0)], .arr 6 1⟩, ⟨33, 1, [some (.slice none 0 0)], .slc 1⟩, ⟨35, 2, [some (.bool false), some (.slice none 0 0)], .str [0, 1] [1, 1]⟩, ⟨37, 3, [some (.bool false), some (.slice none 0 0), some (.slice none 0 0)], .str [0, 2] [2, 1]⟩,
  ⟨39, 6, [some (.bool false), some (.slice none 0 0), some (.slice none 0 0), some (.bool false), some (.slice none 0 0), some (.slice none 0 0)], .str [0, 3] [3, 3]⟩, ⟨75, 18, [some (.bool false), some (.slice none 0 0), some (.slice none 0 0), some (.bool false), some (.slice none 0 0), some (.slice none 0 0), some (.bool false), some (.slice none 0 0), some (.slice none 0 0), some (.bool false), some (.slice none 0 0), some (.slice none 0 0), some (.bool false), some (.slice none 0 0), some (.slice none 0 0), some (.bool false), some (.slice none 0 0), some (.slice none 0 0)], .str [0, 3, 6, 9, 12, 15] [3, 3, 3, 3, 3, 3]⟩]
theorem rowsE_ok : rowsE.all (TRow.ok Tryz.prog) = true := by kernel_rfl
def cons0 : List (FuncId × Con) := [(47, conR2 cAdd), (49, conR2 cSub), (48, conR2 cMul), (44, conR2 cCmp), (46, conR1 cSign), (50, conR1 cNeg)]
theorem cons0_ok : AllCon Tryz.prog cons0 := ⟨ok_add, ok_sub, ok_mul, ok_cmp, ok_sign, ok_neg, trivial⟩
noncomputable def envOf (l : List (FuncId × Con)) : Env := ⟨Tryz.prog, l, rowsE.map TRow.ty⟩
theorem envOf_ok {l : List (FuncId × Con)} (h : AllCon Tryz.prog l) : (envOf l).Ok := ⟨rows_ok rowsE_ok, con_ok h, by kernel_rfl⟩
def MS (k : Nat) (w : World) (v : Value) (a b c d e f : Rat) : Prop := ∃ s1 u1 d1 s2 u2 d2 s3 u3 d3 s4 u4 d4 s5 u5 d5 s6 u6 d6, v = .agg #[s1, u1, d1, s2, u2, d2, s3, u3, d3, s4, u4, d4, s5, u5, d5, s6, u6, d6] ∧ RS k w (.agg #[s1, u1, d1]) a ∧ RS k w (.agg #[s2, u2, d2]) b ∧ RS k w (.agg #[s3, u3, d3]) c ∧ RS k w (.agg #[s4, u4, d4]) d ∧ RS k w (.agg #[s5, u5, d5]) e ∧ RS k w (.agg #[s6, u6, d6]) f
def MN (k : Nat) (w : World) (v : Value) (a b c d e f : Rat) : Prop := ∃ s1 u1 d1 s2 u2 d2 s3 u3 d3 s4 u4 d4 s5 u5 d5 s6 u6 d6, v = .agg #[s1, u1, d1, s2, u2, d2, s3, u3, d3, s4, u4, d4, s5, u5, d5, s6, u6, d6] ∧ RN k w (.agg #[s1, u1, d1]) a ∧ RN k w (.agg #[s2, u2, d2]) b ∧ RN k w (.agg #[s3, u3, d3]) c ∧ RN k w (.agg #[s4, u4, d4]) d ∧ RN k w (.agg #[s5, u5, d5]) e ∧ RN k w (.agg #[s6, u6, d6]) f
section
variable {w w' : World} {v : Value} {k : Nat} {a b c d e f : Rat}
theorem MS.bel (h : MS k w v a b c d e f) (hb : Bel w w') : MS k w' v a b c d e f := by
  obtain ⟨s1, u1, d1, s2, u2, d2, s3, u3, d3, s4, u4, d4, s5, u5, d5, s6, u6, d6, h0, h1, h2, h3, h4, h5, h6⟩ := h
  exact ⟨s1, u1, d1, s2, u2, d2, s3, u3, d3, s4, u4, d4, s5, u5, d5, s6, u6, d6, h0, h1.bel hb, h2.bel hb, h3.bel hb, h4.bel hb, h5.bel hb, h6.bel hb⟩
theorem MS.lim (h : MS k w v a b c d e f) (hl : Lim w w') : MS k w' v a b c d e f := by
  obtain ⟨s1, u1, d1, s2, u2, d2, s3, u3, d3, s4, u4, d4, s5, u5, d5, s6, u6, d6, h0, h1, h2, h3, h4, h5, h6⟩ := h
  exact ⟨s1, u1, d1, s2, u2, d2, s3, u3, d3, s4, u4, d4, s5, u5, d5, s6, u6, d6, h0, h1.lim hl, h2.lim hl, h3.lim hl, h4.lim hl, h5.lim hl, h6.lim hl⟩
theorem MS.mono (h : MS k w v a b c d e f) {m : Nat} (hm : k ≤ m) : MS m w v a b c d e f := by
  obtain ⟨s1, u1, d1, s2, u2, d2, s3, u3, d3, s4, u4, d4, s5, u5, d5, s6, u6, d6, h0, h1, h2, h3, h4, h5, h6⟩ := h
  exact ⟨s1, u1, d1, s2, u2, d2, s3, u3, d3, s4, u4, d4, s5, u5, d5, s6, u6, d6, h0, h1.mono hm, h2.mono hm, h3.mono hm, h4.mono hm, h5.mono hm, h6.mono hm⟩
theorem MN.bel (h : MN k w v a b c d e f) (hb : Bel w w') : MN k w' v a b c d e f := by
  obtain ⟨s1, u1, d1, s2, u2, d2, s3, u3, d3, s4, u4, d4, s5, u5, d5, s6, u6, d6, h0, h1, h2, h3, h4, h5, h6⟩ := h
  exact ⟨s1, u1, d1, s2, u2, d2, s3, u3, d3, s4, u4, d4, s5, u5, d5, s6, u6, d6, h0, h1.bel hb, h2.bel hb, h3.bel hb, h4.bel hb, h5.bel hb, h6.bel hb⟩
theorem MN.lim (h : MN k w v a b c d e f) (hl : Lim w w') : MN k w' v a b c d e f := by
  obtain ⟨s1, u1, d1, s2, u2, d2, s3, u3, d3, s4, u4, d4, s5, u5, d5, s6, u6, d6, h0, h1, h2, h3, h4, h5, h6⟩ := h
  exact ⟨s1, u1, d1, s2, u2, d2, s3, u3, d3, s4, u4, d4, s5, u5, d5, s6, u6, d6, h0, h1.lim hl, h2.lim hl, h3.lim hl, h4.lim hl, h5.lim hl, h6.lim hl⟩
theorem MN.mono (h : MN k w v a b c d e f) {m : Nat} (hm : k ≤ m) : MN m w v a b c d e f := by
  obtain ⟨s1, u1, d1, s2, u2, d2, s3, u3, d3, s4, u4, d4, s5, u5, d5, s6, u6, d6, h0, h1, h2, h3, h4, h5, h6⟩ := h
  exact ⟨s1, u1, d1, s2, u2, d2, s3, u3, d3, s4, u4, d4, s5, u5, d5, s6, u6, d6, h0, h1.mono hm, h2.mono hm, h3.mono hm, h4.mono hm, h5.mono hm, h6.mono hm⟩
theorem MS.parts (h : MS k w v a b c d e f) : ∃ s1 p1 k1 c1 q1 j1 d1 s2 p2 k2 c2 q2 j2 d2 s3 p3 k3 c3 q3 j3 d3 s4 p4 k4 c4 q4 j4 d4 s5 p5 k5 c5 q5 j5 d5 s6 p6 k6 c6 q6 j6 d6, v = .agg #[.bool s1, .slice p1 k1 c1, .slice q1 j1 d1, .bool s2, .slice p2 k2 c2, .slice q2 j2 d2, .bool s3, .slice p3 k3 c3, .slice q3 j3 d3, .bool s4, .slice p4 k4 c4, .slice q4 j4 d4, .bool s5, .slice p5 k5 c5, .slice q5 j5 d5, .bool s6, .slice p6 k6 c6, .slice q6 j6 d6] ∧ RS k w (.agg #[.bool s1, .slice p1 k1 c1, .slice q1 j1 d1]) a ∧ RS k w (.agg #[.bool s2, .slice p2 k2 c2, .slice q2 j2 d2]) b ∧ RS k w (.agg #[.bool s3, .slice p3 k3 c3, .slice q3 j3 d3]) c ∧ RS k w (.agg #[.bool s4, .slice p4 k4 c4, .slice q4 j4 d4]) d ∧ RS k w (.agg #[.bool s5, .slice p5 k5 c5, .slice q5 j5 d5]) e ∧ RS k w (.agg #[.bool s6, .slice p6 k6 c6, .slice q6 j6 d6]) f := by
  obtain ⟨s1, u1, d1, s2, u2, d2, s3, u3, d3, s4, u4, d4, s5, u5, d5, s6, u6, d6, rfl, h1, h2, h3, h4, h5, h6⟩ := h
  obtain ⟨s1, p1, k1, c1, q1, j1, d1, e1⟩ := h1.parts
  simp only [Value.agg.injEq, Array.mk.injEq, List.cons.injEq, and_true] at e1
  obtain ⟨rfl, rfl, rfl⟩ := e1
  obtain ⟨s2, p2, k2, c2, q2, j2, d2, e2⟩ := h2.parts
  simp only [Value.agg.injEq, Array.mk.injEq, List.cons.injEq, and_true] at e2
  obtain ⟨rfl, rfl, rfl⟩ := e2
  obtain ⟨s3, p3, k3, c3, q3, j3, d3, e3⟩ := h3.parts
  simp only [Value.agg.injEq, Array.mk.injEq, List.cons.injEq, and_true] at e3
  obtain ⟨rfl, rfl, rfl⟩ := e3
  obtain ⟨s4, p4, k4, c4, q4, j4, d4, e4⟩ := h4.parts
  simp only [Value.agg.injEq, Array.mk.injEq, List.cons.injEq, and_true] at e4
  obtain ⟨rfl, rfl, rfl⟩ := e4
  obtain ⟨s5, p5, k5, c5, q5, j5, d5, e5⟩ := h5.parts
  simp only [Value.agg.injEq, Array.mk.injEq, List.cons.injEq, and_true] at e5
  obtain ⟨rfl, rfl, rfl⟩ := e5
  obtain ⟨s6, p6, k6, c6, q6, j6, d6, e6⟩ := h6.parts
  simp only [Value.agg.injEq, Array.mk.injEq, List.cons.injEq, and_true] at e6
  obtain ⟨rfl, rfl, rfl⟩ := e6
  exact ⟨s1, p1, k1, c1, q1, j1, d1, s2, p2, k2, c2, q2, j2, d2, s3, p3, k3, c3, q3, j3, d3, s4, p4, k4, c4, q4, j4, d4, s5, p5, k5, c5, q5, j5, d5, s6, p6, k6, c6, q6, j6, d6, rfl, h1, h2, h3, h4, h5, h6⟩
theorem MS.split {z0 z1 z2 z3 z4 z5 z6 z7 z8 z9 z10 z11 z12 z13 z14 z15 z16 z17 : Value} (h : MS k w (.agg #[z0, z1, z2, z3, z4, z5, z6, z7, z8, z9, z10, z11, z12, z13, z14, z15, z16, z17]) a b c d e f) : RS k w (.agg #[z0, z1, z2]) a ∧ RS k w (.agg #[z3, z4, z5]) b ∧ RS k w (.agg #[z6, z7, z8]) c ∧ RS k w (.agg #[z9, z10, z11]) d ∧ RS k w (.agg #[z12, z13, z14]) e ∧ RS k w (.agg #[z15, z16, z17]) f := by
  obtain ⟨s1, u1, d1, s2, u2, d2, s3, u3, d3, s4, u4, d4, s5, u5, d5, s6, u6, d6, h0, h1, h2, h3, h4, h5, h6⟩ := h
  simp only [Value.agg.injEq, Array.mk.injEq, List.cons.injEq, and_true] at h0
  obtain ⟨rfl, rfl, rfl, rfl, rfl, rfl, rfl, rfl, rfl, rfl, rfl, rfl, rfl, rfl, rfl, rfl, rfl, rfl⟩ := h0
  exact ⟨h1, h2, h3, h4, h5, h6⟩
theorem MN.parts (h : MN k w v a b c d e f) : ∃ s1 p1 k1 c1 q1 j1 d1 s2 p2 k2 c2 q2 j2 d2 s3 p3 k3 c3 q3 j3 d3 s4 p4 k4 c4 q4 j4 d4 s5 p5 k5 c5 q5 j5 d5 s6 p6 k6 c6 q6 j6 d6, v = .agg #[.bool s1, .slice p1 k1 c1, .slice q1 j1 d1, .bool s2, .slice p2 k2 c2, .slice q2 j2 d2, .bool s3, .slice p3 k3 c3, .slice q3 j3 d3, .bool s4, .slice p4 k4 c4, .slice q4 j4 d4, .bool s5, .slice p5 k5 c5, .slice q5 j5 d5, .bool s6, .slice p6 k6 c6, .slice q6 j6 d6] ∧ RN k w (.agg #[.bool s1, .slice p1 k1 c1, .slice q1 j1 d1]) a ∧ RN k w (.agg #[.bool s2, .slice p2 k2 c2, .slice q2 j2 d2]) b ∧ RN k w (.agg #[.bool s3, .slice p3 k3 c3, .slice q3 j3 d3]) c ∧ RN k w (.agg #[.bool s4, .slice p4 k4 c4, .slice q4 j4 d4]) d ∧ RN k w (.agg #[.bool s5, .slice p5 k5 c5, .slice q5 j5 d5]) e ∧ RN k w (.agg #[.bool s6, .slice p6 k6 c6, .slice q6 j6 d6]) f := by
  obtain ⟨s1, u1, d1, s2, u2, d2, s3, u3, d3, s4, u4, d4, s5, u5, d5, s6, u6, d6, rfl, h1, h2, h3, h4, h5, h6⟩ := h
  obtain ⟨s1, p1, k1, c1, q1, j1, d1, e1⟩ := h1.parts
  simp only [Value.agg.injEq, Array.mk.injEq, List.cons.injEq, and_true] at e1
  obtain ⟨rfl, rfl, rfl⟩ := e1
  obtain ⟨s2, p2, k2, c2, q2, j2, d2, e2⟩ := h2.parts
  simp only [Value.agg.injEq, Array.mk.injEq, List.cons.injEq, and_true] at e2
  obtain ⟨rfl, rfl, rfl⟩ := e2
  obtain ⟨s3, p3, k3, c3, q3, j3, d3, e3⟩ := h3.parts
  simp only [Value.agg.injEq, Array.mk.injEq, List.cons.injEq, and_true] at e3
  obtain ⟨rfl, rfl, rfl⟩ := e3
  obtain ⟨s4, p4, k4, c4, q4, j4, d4, e4⟩ := h4.parts
  simp only [Value.agg.injEq, Array.mk.injEq, List.cons.injEq, and_true] at e4
  obtain ⟨rfl, rfl, rfl⟩ := e4
  obtain ⟨s5, p5, k5, c5, q5, j5, d5, e5⟩ := h5.parts
  simp only [Value.agg.injEq, Array.mk.injEq, List.cons.injEq, and_true] at e5
  obtain ⟨rfl, rfl, rfl⟩ := e5
  obtain ⟨s6, p6, k6, c6, q6, j6, d6, e6⟩ := h6.parts
  simp only [Value.agg.injEq, Array.mk.injEq, List.cons.injEq, and_true] at e6
  obtain ⟨rfl, rfl, rfl⟩ := e6
  exact ⟨s1, p1, k1, c1, q1, j1, d1, s2, p2, k2, c2, q2, j2, d2, s3, p3, k3, c3, q3, j3, d3, s4, p4, k4, c4, q4, j4, d4, s5, p5, k5, c5, q5, j5, d5, s6, p6, k6, c6, q6, j6, d6, rfl, h1, h2, h3, h4, h5, h6⟩
theorem MN.split {z0 z1 z2 z3 z4 z5 z6 z7 z8 z9 z10 z11 z12 z13 z14 z15 z16 z17 : Value} (h : MN k w (.agg #[z0, z1, z2, z3, z4, z5, z6, z7, z8, z9, z10, z11, z12, z13, z14, z15, z16, z17]) a b c d e f) : RN k w (.agg #[z0, z1, z2]) a ∧ RN k w (.agg #[z3, z4, z5]) b ∧ RN k w (.agg #[z6, z7, z8]) c ∧ RN k w (.agg #[z9, z10, z11]) d ∧ RN k w (.agg #[z12, z13, z14]) e ∧ RN k w (.agg #[z15, z16, z17]) f := by
  obtain ⟨s1, u1, d1, s2, u2, d2, s3, u3, d3, s4, u4, d4, s5, u5, d5, s6, u6, d6, h0, h1, h2, h3, h4, h5, h6⟩ := h
  simp only [Value.agg.injEq, Array.mk.injEq, List.cons.injEq, and_true] at h0
  obtain ⟨rfl, rfl, rfl, rfl, rfl, rfl, rfl, rfl, rfl, rfl, rfl, rfl, rfl, rfl, rfl, rfl, rfl, rfl⟩ := h0
  exact ⟨h1, h2, h3, h4, h5, h6⟩
end
theorem rs_zero (w : World) : RS 1 w (.agg #[.bool false, .slice none 0 0, .slice none 0 0]) 0 := ⟨⟨false, _, _, 0, 0, rfl, ni_nil w, ni_nil w, by decide +kernel⟩, by decide, by decide⟩
theorem PN.split {k : Nat} {w : World} {c1 c2 c3 c4 c5 c6 : Value} {x y : Rat} (h : PN k w (.agg #[c1, c2, c3, c4, c5, c6]) x y) : RN k w (.agg #[c1, c2, c3]) x ∧ RN k w (.agg #[c4, c5, c6]) y := by
  obtain ⟨⟨s1, u1, d1, s2, u2, d2, h0, h1, h2⟩, hx, hy⟩ := h
  simp only [Value.agg.injEq, Array.mk.injEq, List.cons.injEq, and_true] at h0
  obtain ⟨rfl, rfl, rfl, rfl, rfl, rfl⟩ := h0
  exact ⟨⟨h1, hx⟩, h2, hy⟩
/-- A value and what came of it. -/
def Tup (Φ : Value → World → Prop) (c : Value) (v : Value) (w : World) : Prop := ∃ u, v = .tuple #[u, c] ∧ Φ u w
theorem Tup.bel {Φ : Value → World → Prop} {c v : Value} {w w' : World} (h : Tup Φ c v w) (hs : ∀ v w w', Φ v w → Bel w w' → Φ v w') (hb : Bel w w') : Tup Φ c v w' := by
  obtain ⟨u, h1, h2⟩ := h
  exact ⟨u, h1, hs _ _ _ h2 hb⟩
theorem au_rdiv {w : World} {a b : Value} {x y : Rat} {i j : Nat} (ha : RS i w a x) (hb : RS j w b y) (hl : i + j < LimK) (h0 : y ≠ 0) : Calls Tryz.prog 87 #[a, b] w (Makes w (Tup (fun v w' => RN (i + j) w' v (x / y)) (.int .i64 0))) := by
  have hn : y.num ≠ 0 := fun h => h0 (Rat.num_eq_zero.1 h)
  refine (mk_rdiv ha hb hl h0).mono fun _ _ h => h.imp fun _ h => ?_
  obtain ⟨u, h1, h2⟩ := h
  exact ⟨u, h1, h2, ha.2.div hb.2 hn⟩
theorem au_rdiv0 {w : World} {a b : Value} {x y : Rat} {i j : Nat} (ha : RS i w a x) (hb : RS j w b y) (hl : i + j < LimK) (h0 : y = 0) : Calls Tryz.prog 87 #[a, b] w (Makes w fun v _ => v = .tuple #[.agg #[.bool false, .slice none 0 0, .slice none 0 0], .int .i64 12]) := mk_rdiv0 ha hb hl h0
def asRats : Nat → V → Option (List (Rat × Nat))
  | 0, [] => some []
  | 0, _ :: _ => none
  | n + 1, v => match V.takeN v 3, V.dropN v 3 with
    | some a, some b => match asRat a, asRats n b with
      | some p, some l => some (p :: l)
      | _, _ => none
    | _, _ => none
section
variable {C : Ctx} {w : World}
/-- The cells of so many fractions. -/
def RatCells (w : World) : List (Rat × Nat) → List Value → Prop
  | [], cs => cs = []
  | p :: l, cs => ∃ a b c r, cs = a :: b :: c :: r ∧ (p.2 ≤ LimK → RS p.2 w (.agg #[a, b, c]) p.1) ∧ RatCells w l r
theorem asRats_rel : ∀ {n : Nat} {x : V} {cs : List Value} {l : List (Rat × Nat)}, x.rel C w cs → asRats n x = some l → RatCells w l cs ∧ l.length = n
  | 0, [], cs, l, h, he => by
    simp only [asRats, Option.some.injEq] at he
    subst he
    exact ⟨h, rfl⟩
  | 0, _ :: _, _, _, _, he => by simp [asRats] at he
  | n + 1, x, cs, l, h, he => by
    simp only [asRats] at he
    split at he
    · rename_i a b ha hb
      split at he
      · rename_i p r hp hr
        cases he
        obtain ⟨h1, h2⟩ := V.takeN_rel h ha
        obtain ⟨-, h3⟩ := V.dropN_rel h hb
        obtain ⟨h4, h5⟩ := asRats_rel h3 hr
        match cs, h1 with
        | c0 :: c1 :: c2 :: cs, _ => exact ⟨⟨c0, c1, c2, cs, rfl, fun hk => asRat_rel (x := a) (v := .agg #[c0, c1, c2]) hp ⟨_, h2, rfl⟩ hk, h4⟩, by simp [h5]⟩
        | [_, _], h1 => simp at h1
        | [_], h1 => simp at h1
        | [], h1 => simp at h1
      · cases he
    · cases he
theorem asRats_has {n : Nat} {x : V} {v : Value} {l : List (Rat × Nat)} (h : x.has C w v) (he : asRats n x = some l) (hn : n ≠ 0) : ∃ cs, v = .agg (List.toArray cs) ∧ RatCells w l cs := by
  obtain ⟨cs, h1, rfl⟩ := h
  obtain ⟨h2, h3⟩ := asRats_rel h1 he
  refine ⟨cs, pack_agg ?_, h2⟩
  match l, h3, h2 with
  | [], h3, _ => simp at h3; omega
  | _ :: _, _, h2 => obtain ⟨a, b, c, r, rfl, _⟩ := h2; simp
theorem asPt_has {x : V} {v : Value} {p q : Rat × Nat} (h : x.has C w v) (he : asRats 2 x = some [p, q]) {m : Nat} (hp : p.2 ≤ m) (hq : q.2 ≤ m) (hm : m ≤ LimK) : PS m w v p.1 q.1 := by
  obtain ⟨cs, rfl, a, b, c, r, rfl, h1, d, e, f, s, rfl, h2, h3⟩ := asRats_has h he (by decide)
  simp only [RatCells] at h3
  subst h3
  exact ⟨_, _, _, _, _, _, rfl, (h1 (by omega)).mono hp, (h2 (by omega)).mono hq⟩
theorem pt_has {k : Nat} {v : Value} {x y : Rat} (h : PN k w v x y) (hk : k ≤ LimK) : T.rel C w (.one [.rat x k, .rat y k]) v := by
  obtain ⟨s1, p1, k1, c1, p2, k2, c2, s2, p3, k3, c3, p4, k4, c4, rfl, h1, h2⟩ := h.parts
  exact ⟨[_, _, _, _, _, _], ⟨[_, _, _], _, rfl, ⟨_, _, _, rfl, h1, hk⟩, [_, _, _], [], rfl, ⟨_, _, _, rfl, h2, hk⟩, rfl⟩, rfl⟩
end
/-! ### rat.Of, rat.Div, rat.Text -/
theorem ok_div : OkCon Tryz.prog 87 (conR2 cDiv) := r2_ok (fun vs w => Go.MuLone.run_callFunc_enter Tryz.func87 rfl rfl vs w) fun q i r j t h => by
  obtain ⟨h1, ⟨hb, rfl⟩ | ⟨hb, rfl⟩⟩ := h <;> have h1 := Nat.ble_eq.mp h1
  · exact ⟨by omega, by omega, fun C w a b ha hb' => (au_rdiv0 ha hb' h1 (of_decide_eq_true hb)).mono fun _ w' h => h.imp fun _ h => by
      subst h
      exact ⟨[_, _], rfl, _, _, rfl, ⟨[_, _, _], ⟨_, [], rfl, ⟨rfl, rs_zero _⟩, rfl⟩, rfl⟩, _, _, rfl, one_of rfl, rfl⟩⟩
  · exact ⟨by omega, by omega, fun C w a b ha hb' => (au_rdiv ha hb' h1 (of_decide_eq_false hb)).mono fun _ w' h => h.imp fun _ h => by
      obtain ⟨u, rfl, hu⟩ := h
      exact ⟨[_, _], rfl, _, _, rfl, rat_has hu (by omega), _, _, rfl, one_of rfl, rfl⟩⟩
def intU : U → Option (Bool × Int)
  | .lit (.int .i64 n) => some (true, n)
  | .sym (.int .i64 n) => some (false, n)
  | _ => none
theorem intU_has {C : Ctx} {w : World} {u : U} {l : Bool} {n : Int} {v : Value} (h : intU u = some (l, n)) (hr : V.has C w [u] v) : v = .int .i64 n := by
  unfold intU at h
  split at h <;> first | (cases h; have := u_rel hr rfl; simpa [U.rel] using this) | cases h
def conI2 (F : Bool → Int → Int → Out T) : Con
  | [[u], [v]] => match intU u, intU v with | some (l, a), some (m, b) => F (l && m) a b | _, _ => .fail
  | _ => .fail
theorem i2_ok {P : Program} {f : FuncId} {F : Bool → Int → Int → Out T} (he : ∀ vs w, (callFunc f vs).run P w = .ok (.enter f vs) w)
    (h : ∀ l p q t, (F l p q).gets t → ∀ C w, Calls P f #[.int .i64 p, .int .i64 q] w (Makes w fun v w' => T.rel C w' t v)) : OkCon P f (conI2 F) := ⟨he, fun args t hg C w vs _ ha => by
  unfold conI2 at hg
  split at hg
  · rename_i u v
    split at hg
    · rename_i l p m q hp hq
      obtain ⟨a, b, rfl, h1, h2⟩ := all2 ha
      obtain rfl := intU_has hp h1
      obtain rfl := intU_has hq h2
      exact h _ p q t hg C w
    · exact hg.elim
  · exact hg.elim⟩
def fitsB (p : Int) : Bool := decide (-9223372036854775808 ≤ p) && decide (p < 9223372036854775808)
theorem fits_of {p : Int} (h : fitsB p = true) : -9223372036854775808 ≤ p ∧ p < 9223372036854775808 := by simpa [fitsB] using h
/-- Numerals are looked at; of others it is asked. -/
def Out.ask {α : Type} (l : Bool) (b : Bool) (k : Out α) : Out α := match l with | true => .chk b k | false => .need (b = true) k
theorem ask_gets {α : Type} {l b : Bool} {k : Out α} {x : α} (h : (Out.ask l b k).gets x) : b = true ∧ k.gets x := by cases l <;> exact h
def cOf (l : Bool) (p q : Int) : Out T := .ask l (fitsB p && fitsB q && decide (0 < q)) (.leaf (.one [.rat (mkRat p q.toNat) 1]))
theorem ok_of : OkCon Tryz.prog 45 (conI2 cOf) := i2_ok (fun vs w => Go.MuLone.run_callFunc_enter Tryz.func45 rfl rfl vs w) fun l p q t h => by
  obtain ⟨h0, rfl⟩ := ask_gets h
  simp only [Bool.and_eq_true, decide_eq_true_eq] at h0
  obtain ⟨⟨h1, h2⟩, h3⟩ := h0
  obtain ⟨h1, h1'⟩ := fits_of h1
  obtain ⟨-, h2⟩ := fits_of h2
  obtain ⟨n, rfl⟩ := Int.eq_ofNat_of_zero_le (Int.le_of_lt h3)
  exact fun C w => (au_rof (p := p) (q := n) h1 h1' (by omega) (by omega) w).mono fun _ _ h => h.imp fun _ h => rat_has h (by decide)
def cP (l : Bool) (p q : Int) : Out T := .ask l (fitsB p && fitsB q) (.leaf (.one [.rat p 1, .rat q 1]))
theorem ok_P : OkCon Tryz.prog 43 (conI2 cP) := i2_ok (fun vs w => Go.MuLone.run_callFunc_enter Tryz.func43 rfl rfl vs w) fun l p q t h => by
  obtain ⟨h0, rfl⟩ := ask_gets h
  simp only [Bool.and_eq_true] at h0
  obtain ⟨h1, h2⟩ := fits_of h0.1
  obtain ⟨h3, h4⟩ := fits_of h0.2
  exact fun C w => (au_P h1 h2 h3 h4 w).mono fun _ _ h => h.imp fun _ h => pt_has h (by decide)
def cText (q : Rat) (i : Nat) : Out T := .chk (decide (i ≤ LimK ∧ TextOK q)) (.leaf (.one [.sym (.string ⟨(textQ q).toArray⟩)]))
theorem ok_text : OkCon Tryz.prog 72 (conR1 cText) := r1_ok (fun vs w => Go.MuLone.run_callFunc_enter Tryz.func72 rfl rfl vs w) fun q i t h => by
  obtain ⟨h0, rfl⟩ := h
  obtain ⟨h1, h2⟩ := of_decide_eq_true h0
  exact ⟨h1, fun C w a ha => (rtext_small ha h1 h2).mono fun _ _ h => h.imp fun _ h => by subst h; exact one_of rfl⟩
/-! ### Points, maps, the laws' helpers -/
def cScale : Con
  | [x, k] => match asRats 2 x, asRat k with
    | some [(p, i), (q, j)], some (z, m) => .chk (((i.max j) + m).blt LimK) (.leaf (.one [.rat (p * z) ((i.max j) + m), .rat (q * z) ((i.max j) + m)]))
    | _, _ => .fail
  | _ => .fail
theorem ok_scale : OkCon Tryz.prog 25 cScale := ⟨fun vs w => Go.MuLone.run_callFunc_enter Tryz.func25 rfl rfl vs w, fun args t hg C w vs _ ha => by
  unfold cScale at hg
  split at hg
  · split at hg
    · rename_i p i q j z m hx hk
      obtain ⟨hl, rfl⟩ := hg
      have hl := Nat.ble_eq.mp hl
      obtain ⟨a, b, rfl, h1, h2⟩ := all2 ha
      exact (au_scale (asPt_has (m := i.max j) h1 hx (Nat.le_max_left i j) (Nat.le_max_right i j) (by omega)) (asRat_rel hk h2 (by omega)) hl).mono fun _ _ h => h.imp fun _ h => pt_has h (by omega)
    · exact hg.elim
  · exact hg.elim⟩
def cTrue : Con
  | [] => .leaf (.one [.lit (.bool true)])
  | _ => .fail
/-- A made fraction is good. -/
def cGood : Con
  | [[.rat _ k]] => .chk (k.blt LimK) (.leaf (.one [.lit (.bool true)]))
  | _ => .fail
theorem ok_good : OkCon Tryz.prog 86 cGood := ⟨fun vs w => Go.MuLone.run_callFunc_enter Tryz.func86 rfl rfl vs w, fun args t hg C w vs _ ha => by
  unfold cGood at hg
  split at hg
  · rename_i q k
    obtain ⟨hl, rfl⟩ := hg
    have hl := Nat.ble_eq.mp hl
    obtain ⟨a, rfl, cs, ⟨c1, c2, rfl, ⟨x, y, z, rfl, h1, h2⟩, h3⟩, rfl⟩ := all1 ha
    simp only [V.rel] at h3
    subst h3
    exact (mk_rgood1 h1.1 h1.2 hl).mono fun _ _ h => h.imp fun _ h => by subst h; exact one_of rfl
  · exact hg.elim⟩
def toRps : List Value → Option (List Rp)
  | [] => some []
  | .bool s1 :: .slice p1 k1 c1 :: .slice q1 j1 d1 :: .bool s2 :: .slice p2 k2 c2 :: .slice q2 j2 d2 :: l => (toRps l).map fun r => ⟨s1, p1, k1, c1, q1, j1, d1, s2, p2, k2, c2, q2, j2, d2⟩ :: r
  | _ => none
theorem toRps_row : ∀ {l : List Value} {r : List Rp}, toRps l = some r → l = r.flatMap Rp.row
  | [], r, h => by simp only [toRps, Option.some.injEq] at h; subst h; rfl
  | v :: l, r, h => by
    unfold toRps at h
    split at h
    · rename_i he; cases he
    · rename_i s1 p1 k1 c1 q1 j1 d1 s2 p2 k2 c2 q2 j2 d2 l' he
      cases he
      cases hr : toRps l' with
      | none => rw [hr] at h; cases h
      | some m =>
        rw [hr] at h
        cases h
        rw [toRps_row hr]
        rfl
    · cases h
def cFair : Con
  | [[.sl l n 6]] => match toRps l with
    | some r => .chk (n.blt 1000000) (.leaf (.one [.sym (.bool (r.all (Rp.ok 6)))]))
    | none => .fail
  | _ => .fail
theorem rows_len : ∀ (r : List Rp), (r.flatMap Rp.row).length = r.length * 6
  | [] => rfl
  | x :: r => by rw [List.flatMap_cons, List.length_append, rows_len r]; simp [Rp.row]; omega
theorem ok_fair : OkCon Tryz.prog 12 cFair := ⟨fun vs w => Go.MuLone.run_callFunc_enter Tryz.func12 rfl rfl vs w, fun args t hg C w vs _ ha => by
  unfold cFair at hg
  split at hg
  · rename_i l n
    split at hg
    · rename_i r hr
      obtain ⟨hn, rfl⟩ := hg
      have hn := Nat.ble_eq.mp hn
      obtain ⟨a, rfl, h1⟩ := all1 ha
      obtain ⟨G, h2, h3, h4⟩ := u_rel h1 rfl
      simp only [List.cons.injEq, and_true] at h2
      subst h2
      have hl := toRps_row hr
      have hlen : r.length = n := by rw [hl, rows_len] at h3; omega
      subst hlen
      have hsl : RpSl r (.slice (some ⟨G, 0, none⟩) r.length r.length) w := ⟨G, rfl, fun i x hx j u hu => (h4 (i * 6 + j) u (by rw [hl]; exact rows_at r i x j u hx hu)).2⟩
      exact (au_fair hsl hn rfl).mono fun _ _ h => h.imp fun _ h => by subst h; exact one_of rfl
    · exact hg.elim
  · exact hg.elim⟩
noncomputable def fnsOf (l : List (FuncId × Con)) : List (FuncId × Func) → List (FuncId × Con)
  | [] => l
  | p :: r => (p.1, exFn (envOf l) p.2) :: fnsOf l r
def Funs : List (FuncId × Func) → Prop
  | [] => True
  | p :: r => (Tryz.prog.funcs[p.1]? = some p.2 ∧ p.2.body.isSome = true ∧ (p.2.name == "runtime.NumGoroutine") = false) ∧ Funs r
theorem fns_ok {l : List (FuncId × Con)} (h : AllCon Tryz.prog l) : ∀ {fs : List (FuncId × Func)}, Funs fs → AllCon Tryz.prog (fnsOf l fs)
  | [], _ => h
  | p :: r, hf => by
    obtain ⟨⟨h1, h2, h3⟩, h4⟩ := hf
    obtain ⟨c, hc⟩ := Option.isSome_iff_exists.1 h2
    exact ⟨OkCon.fn (envOf_ok h) h1 hc h3, fns_ok h h4⟩
def cSame : Con
  | [x, y] => match asRats 2 x, asRats 2 y with
    | some [(a, i), (b, j)], some [(c, k), (d, l)] => .chk (((i.max j) + (k.max l)).blt LimK) (.leaf (.one [.sym (.bool (decide (a = c ∧ b = d)))]))
    | _, _ => .fail
  | _ => .fail
theorem pd_has {C : Ctx} {w : World} {k : Nat} {v : Value} {x y : Rat} (h : PS k w v x y) : V.has C w [.rd x k, .rd y k] v := by
  obtain ⟨s1, u1, d1, s2, u2, d2, rfl, h1, h2⟩ := h
  exact ⟨[_, _, _, _, _, _], ⟨[_, _, _], _, rfl, ⟨_, _, _, rfl, h1⟩, [_, _, _], [], rfl, ⟨_, _, _, rfl, h2⟩, rfl⟩, rfl⟩
theorem same_tree (a b c d : Rat) (i j : Nat) : exFn (envOf cons0) Tryz.f34 [[.rd a i, .rd b i], [.rd c j, .rd d j]] = .chk ((i + j).blt LimK) (.br (cmpR a c == 0) (.chk ((i + j).blt LimK) (.leaf (.one [.sym (.bool (cmpR b d == 0))]))) (.leaf (.one [.lit (.bool false)]))) := by kernel_rfl
theorem same_calls {C : Ctx} {w : World} {u v : Value} {a b c d : Rat} {i j : Nat} {t : T} (hlt : ∀ r, C.S r → r < w.heap.size) (p1 : PS i w u a b) (p2 : PS j w v c d)
    (ht : (Out.chk ((i + j).blt LimK) (.br (cmpR a c == 0) (.chk ((i + j).blt LimK) (.leaf (.one [.sym (.bool (cmpR b d == 0))]))) (.leaf (.one [.lit (.bool false)])))).gets t) : Calls Tryz.prog 34 #[u, v] w (Makes w fun v w' => T.rel C w' t v) := by
  have h2 : V.hasAll C w [[.rd a i, .rd b i], [.rd c j, .rd d j]] [u, v] := ⟨u, [v], rfl, pd_has p1, v, [], rfl, pd_has p2, rfl⟩
  exact fn_tree (envOf_ok cons0_ok) Tryz.func34 (same_tree a b c d i j) ht hlt h2
theorem cmp_dec {a b : Rat} : (cmpR a b == 0) = decide (a = b) := by
  rw [Bool.eq_iff_iff]
  simp [cmpR_eq]
theorem ok_same : OkCon Tryz.prog 34 cSame := ⟨fun vs w => Go.MuLone.run_callFunc_enter Tryz.func34 rfl rfl vs w, fun args t hg C w vs hlt ha => by
  unfold cSame at hg
  split at hg
  · split at hg
    · rename_i a i b j c k d l hx hy
      obtain ⟨hl, rfl⟩ := hg
      have hl' := Nat.ble_eq.mp hl
      obtain ⟨u, v, rfl, h1, h2⟩ := all2 ha
      have p1 := asPt_has (m := i.max j) h1 hx (Nat.le_max_left i j) (Nat.le_max_right i j) (by omega)
      have p2 := asPt_has (m := k.max l) h2 hy (Nat.le_max_left k l) (Nat.le_max_right k l) (by omega)
      have key := fun t ht => same_calls (C := C) (t := t) hlt p1 p2 ht
      by_cases hac : a = c
      · refine (key (.one [.sym (.bool (cmpR b d == 0))]) ⟨hl, .inl ⟨by rw [cmp_dec]; exact decide_eq_true hac, hl, rfl⟩⟩).mono fun _ _ h => h.imp fun _ h => ?_
        rw [cmp_dec] at h
        simpa [hac] using h
      · refine (key (.one [.lit (.bool false)]) ⟨hl, .inr ⟨by rw [cmp_dec]; exact decide_eq_false hac, rfl⟩⟩).mono fun _ _ h => h.imp fun _ h => ?_
        rw [show decide (a = c ∧ b = d) = false from decide_eq_false (fun h => hac h.1)]
        exact h
    · exact hg.elim
  · exact hg.elim⟩
theorem ok_wakes {l : List (FuncId × Con)} (h : AllCon Tryz.prog l) {f : FuncId} {fn : Func} {c : Code} (hf : Tryz.prog.funcs[f]? = some fn) (hb : fn.body = some c) (hn : (fn.name == "runtime.NumGoroutine") = false) (hr : (exFn (envOf l) fn []).run = some (.one [.lit (.bool true)]) ∨ (exFn (envOf l) fn []).run = some (.one [.sym (.bool true)])) : OkCon Tryz.prog f cTrue := ⟨fun vs w => Go.MuLone.run_callFunc_enter hf hn hb vs w, fun args t hg C w vs hlt ha => by
  unfold cTrue at hg
  split at hg
  · obtain rfl := hg
    rcases hr with hr | hr <;> exact fn_calls (envOf_ok h) hf (run_gets hr) hlt ha
  · exact hg.elim⟩
def cons1 : List (FuncId × Con) := (45, conI2 cOf) :: (87, conR2 cDiv) :: (72, conR1 cText) :: (86, cGood) :: (43, conI2 cP) :: (12, cFair) ::
  (25, cScale) :: (34, cSame) :: cons0
theorem cons1_ok : AllCon Tryz.prog cons1 := ⟨ok_of, ok_div, ok_text, ok_good, ok_P, ok_fair, ok_scale, ok_same, cons0_ok⟩
noncomputable def cons2 := fnsOf cons1 [(80, Tryz.f80), (36, Tryz.f36), (30, Tryz.f30), (32, Tryz.f32)]
theorem cons2_ok : AllCon Tryz.prog cons2 := fns_ok cons1_ok ⟨⟨Tryz.func80, rfl, rfl⟩, ⟨Tryz.func36, rfl, rfl⟩, ⟨Tryz.func30, rfl, rfl⟩, ⟨Tryz.func32, rfl, rfl⟩, trivial⟩
noncomputable def cons3 := fnsOf cons2 [(21, Tryz.f21), (23, Tryz.f23)]
theorem cons3_ok : AllCon Tryz.prog cons3 := fns_ok cons2_ok ⟨⟨Tryz.func21, rfl, rfl⟩, ⟨Tryz.func23, rfl, rfl⟩, trivial⟩
noncomputable def cons4 := fnsOf cons3 [(27, Tryz.f27), (39, Tryz.f39), (37, Tryz.f37)]
theorem cons4_ok : AllCon Tryz.prog cons4 := fns_ok cons3_ok ⟨⟨Tryz.func27, rfl, rfl⟩, ⟨Tryz.func39, rfl, rfl⟩, ⟨Tryz.func37, rfl, rfl⟩, trivial⟩
noncomputable def cons5 := fnsOf cons4 [(41, Tryz.f41)]
theorem cons5_ok : AllCon Tryz.prog cons5 := fns_ok cons4_ok ⟨⟨Tryz.func41, rfl, rfl⟩, trivial⟩
theorem ok_wakes06 : OkCon Tryz.prog 14 cTrue := ok_wakes cons5_ok Tryz.func14 rfl rfl (.inl (by kernel_rfl))
noncomputable def cons6 := (14, cTrue) :: cons5
theorem cons6_ok : AllCon Tryz.prog cons6 := ⟨ok_wakes06, cons5_ok⟩
/-- A point that came in, as the evaluator takes it. -/
def Rp.v (x : Rp) (X Y : Rat) (k : Nat) : V := [.raw (.bool x.s1) (.slice x.p1 x.k1 x.c1) (.slice x.q1 x.j1 x.d1) X k, .raw (.bool x.s2) (.slice x.p2 x.k2 x.c2) (.slice x.q2 x.j2 x.d2) Y k]
theorem cell_new (w : World) (v : Value) (t : TypeId) : (w.alloc (.cells #[v] t)).cell? ⟨w.heap.size, 0, none⟩ = some v := (heap_cell (heap_alloc_new w _) 0).trans rfl
theorem wpList_limb32 {W w0 : World} {ops : Array Oper} {rest : List Oper} {o : Oper} {a : Act} {Q : Exit → Act → World → Prop} (hgd : o.guard = none) (s x : Operand)
    (ho : o.op = .call { callee := .builtin .append, args := #[s, x], argTypes := #[33, 33] }) (v : Value) (l : List Nat) (hs : a.eval s = v) (hown : O32 W w0.heap.size v l) (hb : Bel w0 W)
    (g : Nat) (hx : a.eval x = .slice (some ⟨g, 0, none⟩) 1 1) (hg : g = W.heap.size) (y : Nat) (hy : y < B32) (hl : l.length < 1000000000000)
    (h : ∀ g' c w', O32 w' w0.heap.size (.slice (some ⟨g', 0, none⟩) (l.length + 1) c) (l ++ [y]) → Bel w0 w' → wpList Tryz.prog ops Q rest (a.put o.dst (.slice (some ⟨g', 0, none⟩) (l.length + 1) c)) w') :
    wpList Tryz.prog ops Q (o :: rest) a (W.alloc (.cells #[.int .u32 (y : Int)] 135)) := by
  subst hg
  exact wpList_limbs32 hgd s x 33 Tryz.underlying33 ho v l hs (hown.bel ((Bel.refl W).alloc _)) (hb.alloc _) W.heap.size 1 1 hx [y] rfl (by decide)
    (fun j z hj => by
      match j, hj with
      | 0, hj => simp at hj; subst hj; exact cell_new W _ _
      | j + 1, hj => simp at hj) (fun z hz => by simp at hz; subst hz; exact hy) hl (by decide) h
theorem run_make32 (C : Nat) (hC : C ≤ 1000000000000) (w : World) : (Instr.makeSlice 33 (.int .i64 0) (.int .i64 (C : Int))).run Tryz.prog w =
    .ok (.slice (some ⟨w.heap.size, 0, none⟩) 0 C) (w.alloc (.cells (madeCells #[.int .u32 0] (C * 1)) 135)) := by
  obtain ⟨i0, hi, hz0, hz1, hz2⟩ := info_parts infoU32
  have h := run_make (P := Tryz.prog) w 33 135 i0 (.int .u32 0) Tryz.underlying33 hi hz0 .i64 .i64 0 C (by omega) (by omega) (by rw [hz2]; omega) (by omega)
  rw [hz1] at h
  simp only [Int.toNat_natCast] at h
  exact h
theorem make_own32 (w : World) (N : Nat) (hN : N ≤ maxLen) : O32 (w.alloc (.cells (madeCells #[.int .u32 0] (N * 1)) 135)) w.heap.size (.slice (some ⟨w.heap.size, 0, none⟩) 0 N) [] :=
  (made_own32 w N hN).take (m := 0) (by simp)
theorem u32_of {v : Nat} : IntKind.u32.wrap (v : Int) = ((v % B32 : Nat) : Int) := by
  rw [IntKind.wrap_u32]
  unfold B32
  omega
theorem shr32 {v : Nat} : (v : Int) / 4294967296 = ((v / B32 : Nat) : Int) := rfl
theorem limb_get {l : List Nat} {i : Nat} (h : i < l.length) : l[i]? = some (limbL l i) := by
  unfold limbL
  rw [List.getElem?_eq_getElem h]
  rfl
theorem limb_out {l : List Nat} {i : Nat} (h : ¬ i < l.length) : limbL l i = 0 := by
  unfold limbL
  rw [List.getElem?_eq_none (by omega)]
  rfl
set_option maxHeartbeats 4000000 in
set_option maxRecDepth 100000 in
theorem radd_any (p1 p2 : Option Addr) (c1 c2 : Nat) (l1 l2 : List Nat) (w : World) (h1 : R32 w (.slice p1 l1.length c1) l1) (h2 : R32 w (.slice p2 l2.length c2) l2) (hl1 : l1.length < 1000000000) (hl2 : l2.length < 1000000000) :
    Calls Tryz.prog 171 #[.slice p1 l1.length c1, .slice p2 l2.length c2] w fun e w' => ∃ p c, e = .returned (.slice p (limB B32 (valB B32 l1 + valB B32 l2)).length c) ∧
      O32 w' w.heap.size (.slice p (limB B32 (valB B32 l1 + valB B32 l2)).length c) (limB B32 (valB B32 l1 + valB B32 l2)) ∧ Bel w w' := by
  have H1 := Lib.hid h1
  have H2 := Lib.hid h2
  have HA1 := Lib.hid h1.all
  have HA2 := Lib.hid h2.all
  obtain ⟨N, hN⟩ : ∃ N, max l1.length l2.length = N := ⟨_, rfl⟩
  have hN1 : N < 1000000000 := by omega
  have HN := Lib.hid hN
  have hmax : max (l1.length : Int) (l2.length : Int) = (N : Int) := by omega
  have HMK := Lib.hid (fun wx => run_make32 (N + 1) (by omega) wx)
  have hmk : ∀ wx, (Instr.makeSlice 33 (.int .i64 0) (.int .i64 ((N : Int) + 1))).run Tryz.prog wx = .ok (.slice (some ⟨wx.heap.size, 0, none⟩) 0 (N + 1)) (wx.alloc (.cells (madeCells #[.int .u32 0] ((N + 1) * 1)) 135)) := fun wx => HMK.out wx
  obtain ⟨Z, hZ⟩ : ∃ Z, madeCells #[.int .u32 0] ((N + 1) * 1) = Z := ⟨_, rfl⟩
  have HO0 := Lib.hid (make_own32 w (N + 1) (by unfold maxLen; omega))
  rw [hZ] at hmk HO0
  clear h1 h2 hN HMK hZ
  go_enter Tryz.func171, Tryz.ntmps171
  go_wp2
  go_loopg [5, 6, 7] (N + 1) (fun gf s5 s6 s7 wx => ∃ (i c : Nat) (o : List Nat) (p : Option Addr) (cp : Nat), s7 = .int .i64 i ∧ s6 = .int .u64 (c : Nat) ∧ c ≤ 1 ∧ s5 = .slice p o.length cp ∧ i ≤ N + 1 ∧ N + 1 ≤ i + gf ∧ (i = N + 1 → c = 0) ∧ o.length = i ∧ O32 wx w.heap.size (.slice p o.length cp) o ∧
    valB B32 o + c * B32 ^ i = valB B32 (l1.take i) + valB B32 (l2.take i) ∧ Bel w wx)
  case atStart => exact ⟨0, 0, [], some ⟨w.heap.size, 0, none⟩, N + 1, rfl, rfl, by omega, rfl, by omega, by omega, by omega, rfl, HO0.out, by simp [valB], (Bel.refl w).alloc _⟩
  case round =>
    obtain ⟨i, c, o, p, cp, rfl, rfl, hc, rfl, hi, hig, hic, ho, hown, hval, hb⟩ := hrel
    have HOWN := Lib.hid hown
    have HVAL := Lib.hid hval
    have HB := Lib.hid hb
    have HO := Lib.hid ho
    have hol : o.length < 2000000000 := by omega
    clear hown hval hb ho hmk HO0
    by_cases hgo : i < N ∨ 0 < c
    · have hiN : i ≤ N := by omega
      obtain ⟨gk', rfl⟩ : ∃ g, gk = g + 1 := ⟨gk - 1, by omega⟩
      have hX := limb_lt (B := B32) (by decide) HA1.out i
      have hY := limb_lt (B := B32) (by decide) HA2.out i
      have HST := Lib.hid (add_step HO.out HVAL.out)
      have R1 := Lib.hid (H1.out.bel HB.out)
      have R2 := Lib.hid (H2.out.bel HB.out)
      have G1 := Lib.hid (fun h => limb_get (l := l1) (i := i) h)
      have G2 := Lib.hid (fun h => limb_get (l := l2) (i := i) h)
      have Z1 := Lib.hid (fun h => limb_out (l := l1) (i := i) h)
      have Z2 := Lib.hid (fun h => limb_out (l := l2) (i := i) h)
      obtain ⟨X, hX'⟩ : ∃ X, limbL l1 i = X := ⟨_, rfl⟩
      obtain ⟨Y, hY'⟩ : ∃ Y, limbL l2 i = Y := ⟨_, rfl⟩
      rw [hX'] at hX HST G1 Z1
      rw [hY'] at hY HST G2 Z2
      have hXB : X < 4294967296 := hX
      have hYB : Y < 4294967296 := hY
      have e0 : X + Y + c = c + X + Y := by omega
      rw [e0] at HST
      have hS6 : (c + X + Y) % B32 < B32 := Nat.mod_lt _ (by decide)
      have hD1 : (c + X + Y) / B32 ≤ 1 := by
        have : (c + X + Y) / B32 < 2 := by rw [Nat.div_lt_iff_lt_mul (by decide)]; unfold B32; omega
        omega
      have hDN : i = N → (c + X + Y) / B32 = 0 := fun h => by
        have hx0 := Z1.out (by have := HN.out; omega)
        have hy0 := Z2.out (by have := HN.out; omega)
        rw [hx0, hy0]
        exact Nat.div_eq_of_lt (by unfold B32; omega)
      have hw := u32_of (v := c + X + Y)
      have hsh := shr32 (v := c + X + Y)
      simp only [Int.natCast_add] at hw hsh
      obtain ⟨S, hS⟩ : ∃ S, (c + X + Y) % B32 = S := ⟨_, rfl⟩
      obtain ⟨D, hD⟩ : ∃ D, (c + X + Y) / B32 = D := ⟨_, rfl⟩
      rw [hS] at hw HST hS6
      rw [hD] at hsh HST hD1 hDN
      have HGO := Lib.hid hgo
      have HHN := Lib.hid hDN
      have hFIN : Hid (∀ g3 c3 w3, O32 w3 w.heap.size (.slice (some ⟨g3, 0, none⟩) (o.length + 1) c3) (o ++ [S]) → Bel w w3 → ∃ (i' c' : Nat) (o' : List Nat) (p' : Option Addr) (cp' : Nat), (Value.int .i64 ((i : Int) + 1)) = .int .i64 i' ∧ (Value.int .u64 (D : Nat)) = .int .u64 (c' : Nat) ∧ c' ≤ 1 ∧ (Value.slice (some ⟨g3, 0, none⟩) (o.length + 1) c3) = .slice p' o'.length cp' ∧ i' ≤ N + 1 ∧ N + 1 ≤ i' + gk' ∧ (i' = N + 1 → c' = 0) ∧ o'.length = i' ∧ O32 w3 w.heap.size (.slice p' o'.length cp') o' ∧
          valB B32 o' + c' * B32 ^ i' = valB B32 (l1.take i') + valB B32 (l2.take i') ∧ Bel w w3) := fun g3 c3 w3 ho3 hb3 => by
        have hlen : (o ++ [S]).length = o.length + 1 := by simp
        exact ⟨i + 1, D, o ++ [S], some ⟨g3, 0, none⟩, c3, by rw [Int.natCast_add]; rfl, rfl, hD1, by rw [hlen], by omega, by omega, fun h => HHN.out (by omega), by rw [hlen, HO.out], by rw [hlen]; exact ho3, HST.out, hb3⟩
      clear hX hY hX' hY' hS hD e0 hgo hDN HST HHN
      by_cases a1 : i < l1.length
      · obtain ⟨b1, o1, d1, he1, -, q1, -⟩ := R1.out.at (G1.out a1)
        simp only [Value.slice.injEq] at he1
        obtain ⟨rfl, -, rfl⟩ := he1
        have hiN2 : i < N := by have := HN.out; omega
        by_cases a2 : i < l2.length
        · obtain ⟨b2, o2, d2, he2, -, q2, -⟩ := R2.out.at (G2.out a2)
          simp only [Value.slice.injEq] at he2
          obtain ⟨rfl, -, rfl⟩ := he2
          go_wp2_with (at_builtin; (refine wpList_limb32 (W := wr) (w0 := w) rfl (.tmp 52) (.tmp 55) rfl (.slice p o.length cp) o rfl HOWN.out HB.out _ rfl rfl S hS6 (by omega) ?_); intro g3 c3 w3 ho3 hb3; have HR3 := Lib.hid (hFIN.out g3 c3 w3 ho3 hb3); clear ho3 hb3)
          go_roundg gk'
          case measure => omega
          case rel => exact HR3.out
        · obtain rfl := Z2.out a2
          replace hw : IntKind.u32.wrap ((c : Int) + (X : Int)) = (S : Int) := by rw [← hw]; congr 1
          replace hsh : ((c : Int) + (X : Int)) / 4294967296 = (D : Int) := by rw [← hsh]; congr 1
          go_wp2_with (at_builtin; (refine wpList_limb32 (W := wr) (w0 := w) rfl (.tmp 52) (.tmp 55) rfl (.slice p o.length cp) o rfl HOWN.out HB.out _ rfl rfl S hS6 (by omega) ?_); intro g3 c3 w3 ho3 hb3; have HR3 := Lib.hid (hFIN.out g3 c3 w3 ho3 hb3); clear ho3 hb3)
          go_roundg gk'
          case measure => omega
          case rel => exact HR3.out
      · obtain rfl := Z1.out a1
        by_cases a2 : i < l2.length
        · obtain ⟨b2, o2, d2, he2, -, q2, -⟩ := R2.out.at (G2.out a2)
          simp only [Value.slice.injEq] at he2
          obtain ⟨rfl, -, rfl⟩ := he2
          have hiN2 : i < N := by have := HN.out; omega
          replace hw : IntKind.u32.wrap ((c : Int) + (Y : Int)) = (S : Int) := by rw [← hw]; congr 1
          replace hsh : ((c : Int) + (Y : Int)) / 4294967296 = (D : Int) := by rw [← hsh]; congr 1
          go_wp2_with (at_builtin; (refine wpList_limb32 (W := wr) (w0 := w) rfl (.tmp 52) (.tmp 55) rfl (.slice p o.length cp) o rfl HOWN.out HB.out _ rfl rfl S hS6 (by omega) ?_); intro g3 c3 w3 ho3 hb3; have HR3 := Lib.hid (hFIN.out g3 c3 w3 ho3 hb3); clear ho3 hb3)
          go_roundg gk'
          case measure => omega
          case rel => exact HR3.out
        · obtain rfl := Z2.out a2
          have hiN2 : ¬ i < N := by have := HN.out; omega
          have hc0 : 0 < c := HGO.out.resolve_left hiN2
          replace hw : IntKind.u32.wrap (c : Int) = (S : Int) := by rw [← hw]; congr 1
          replace hsh : (c : Int) / 4294967296 = (D : Int) := by rw [← hsh]; congr 1
          go_wp2_with (at_builtin; (refine wpList_limb32 (W := wr) (w0 := w) rfl (.tmp 52) (.tmp 55) rfl (.slice p o.length cp) o rfl HOWN.out HB.out _ rfl rfl S hS6 (by omega) ?_); intro g3 c3 w3 ho3 hb3; have HR3 := Lib.hid (hFIN.out g3 c3 w3 ho3 hb3); clear ho3 hb3)
          go_roundg gk'
          case measure => omega
          case rel => exact HR3.out
    · have hiN2 : ¬ i < N := fun h => hgo (.inl h)
      have hc0 : c = 0 := by omega
      subst hc0
      have hval : valB B32 o = valB B32 l1 + valB B32 l2 := by
        have h := HVAL.out
        rw [List.take_of_length_le (by have := HN.out; omega), List.take_of_length_le (by have := HN.out; omega), Nat.zero_mul, Nat.add_zero] at h
        exact h
      have hfin : limB B32 (valB B32 l1 + valB B32 l2) = trimL o := by rw [← hval, lim_val b32_two HOWN.out.2]
      have HF := Lib.hid hfin
      clear hval hfin hgo
      go_wp2_with (go_at_call 118; (with_reducible refine (rtrim_any _ _ o _ HOWN.out.row (by omega)).mono ?_); rintro e w4 ⟨rfl, hw4⟩; obtain rfl := hw4.symm)
      go_ret
      rw [HF.out]
      refine ⟨p, cp, rfl, ?_, HB.out⟩
      have h := HOWN.out.take (trim_len o)
      rwa [← trim_prefix] at h
end Go.Proofs.YtafmfnpjhhaikaaGreatDoor
