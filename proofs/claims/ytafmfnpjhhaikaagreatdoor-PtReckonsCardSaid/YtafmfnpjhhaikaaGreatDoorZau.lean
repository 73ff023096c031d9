/-
  The evaluator's values: what cells stand for, and that it stays so.
-/
import Derived.Test.YtafmfnpjhhaikaaGreatDoorZas
import Derived.Deep.MidRow
import Derived.Conc.MuLone
namespace Go.Proofs.YtafmfnpjhhaikaaGreatDoor
open Go.RowKit Go.Shelf
/-- What stands in a cell, or in some: a value as it is (told by the text, or reckoned), numbers, a box of the call's own, rows that can be read. -/
inductive U where
  | lit (v : Value)
  | sym (v : Value)
  | nat (n k : Nat)
  | zed (x : Int) (k : Nat)
  | rat (q : Rat) (k : Nat)
  | rd (q : Rat) (k : Nat)
  | raw (a b c : Value) (q : Rat) (k : Nat)
  | ptr (b o : Nat)
  | li (l : List Nat) (k : Nat)
  | inp (s : Bool) (b c : Value) (l m : List Nat) (k : Nat)
  | ni (n k : Nat)
  | rn (n k : Nat)
  | rz (x : Int) (k : Nat)
  | rq (q : Rat) (k : Nat)
  | sl (l : List Value) (n m : Nat)
  | pts (l : List (Rat × Rat)) (k : Nat)
  | ept (l : List (Rat × Rat)) (k i : Nat)
  | any
abbrev V := List U
inductive T where
  | one (v : V)
  | tup (l : List V)
/-- The blocks that are the calls' own alone, and the boxes among them by their numbers. -/
structure Ctx where
  S : Nat → Prop
  β : Nat → Option Nat
def PtsAt (S : Nat → Prop) (w : World) (G o : Nat) (l : List (Rat × Rat)) (k : Nat) : Prop :=
  ∀ (i : Nat) (x : Rat × Rat), l[i]? = some x → ¬ S G ∧ ∃ r : List Value, r.length = 6 ∧ (∀ j u, r[j]? = some u → w.cell? ⟨G, o + 6 * i + j, none⟩ = some u) ∧ PS k w (.agg r.toArray) x.1 x.2
/-- A row of limbs that came in. -/
def LI (w : World) (v : Value) (l : List Nat) (k : Nat) : Prop := ∃ p c, v = .slice p l.length c ∧ R64 w (.slice p l.length c) l ∧ PlainP p ∧ l.length ≤ k
theorem LI.lim {w w' : World} {v : Value} {l : List Nat} {k : Nat} (h : LI w v l k) (hl : Lim w w') : LI w' v l k := by
  obtain ⟨p, c, h1, h2, h3⟩ := h
  exact ⟨p, c, h1, h2.lim hl, h3⟩
def U.size : U → Nat
  | .zed _ _ | .rz _ _ => 2
  | .rat _ _ | .rd _ _ | .raw _ _ _ _ _ | .rq _ _ | .inp _ _ _ _ _ _ => 3
  | _ => 1
def U.rel (C : Ctx) (w : World) : U → List Value → Prop
  | .lit v, cs | .sym v, cs => cs = [v]
  | .nat n k, cs => ∃ v, cs = [v] ∧ NC w v n ∧ n < B64 ^ k
  | .zed x k, cs => ∃ a b, cs = [a, b] ∧ ZC w (.agg #[a, b]) x ∧ x.natAbs < B64 ^ k
  | .rat q k, cs => ∃ a b c, cs = [a, b, c] ∧ RN k w (.agg #[a, b, c]) q ∧ k ≤ LimK
  | .rd q k, cs => ∃ a b c, cs = [a, b, c] ∧ RS k w (.agg #[a, b, c]) q
  | .raw a b c q k, cs => cs = [a, b, c] ∧ RS k w (.agg #[a, b, c]) q
  | .ptr b o, cs => ∃ r, C.β b = some r ∧ cs = [.pointer (some ⟨r, o, none⟩)]
  | .li l k, cs => ∃ v, cs = [v] ∧ LI w v l k
  | .inp s b c l m k, cs => cs = [.bool s, b, c] ∧ LI w b l k ∧ LI w c m k
  | .ni n k, cs => ∃ v, cs = [v] ∧ NI w v n ∧ n < B64 ^ k
  | .rn n k, cs => ∃ v, cs = [v] ∧ NR w v n ∧ n < B64 ^ k
  | .rz x k, cs => ∃ a b, cs = [a, b] ∧ RZ w (.agg #[a, b]) x ∧ x.natAbs < B64 ^ k
  | .rq q k, cs => ∃ a b c, cs = [a, b, c] ∧ RQ w (.agg #[a, b, c]) q ∧ Sz k q
  | .sl l n m, cs => ∃ G, cs = [.slice (some ⟨G, 0, none⟩) n n] ∧ l.length = n * m ∧ ∀ i u, l[i]? = some u → ¬ C.S G ∧ w.cell? ⟨G, i, none⟩ = some u
  | .pts l k, cs => ∃ p c, cs = [.slice p l.length c] ∧ l.length ≤ c ∧ (l ≠ [] → ∃ G o, p = some ⟨G, o, none⟩ ∧ PtsAt C.S w G o l k)
  | .ept l k i, cs => ∃ G o, cs = [.pointer (some ⟨G, o + 6 * i, none⟩)] ∧ PtsAt C.S w G o l k
  | .any, cs => ∃ v, cs = [v]
def V.rel (C : Ctx) (w : World) : V → List Value → Prop
  | [], cs => cs = []
  | u :: us, cs => ∃ c1 c2, cs = c1 ++ c2 ∧ u.rel C w c1 ∧ V.rel C w us c2
def V.size : V → Nat
  | [] => 0
  | u :: us => u.size + V.size us
def pack : List Value → Value
  | [v] => v
  | cs => .agg cs.toArray
def V.has (C : Ctx) (w : World) (x : V) (v : Value) : Prop := ∃ cs, x.rel C w cs ∧ v = pack cs
def V.hasAll (C : Ctx) (w : World) : List V → List Value → Prop
  | [], vs => vs = []
  | x :: xs, vs => ∃ v r, vs = v :: r ∧ x.has C w v ∧ V.hasAll C w xs r
def T.rel (C : Ctx) (w : World) : T → Value → Prop
  | .one x, v => x.has C w v
  | .tup l, v => ∃ vs, v = .tuple vs.toArray ∧ V.hasAll C w l vs
/-- What was there stays, but for blocks of the calls' own; the limbs stay everywhere. -/
structure Stp (S : Nat → Prop) (w w' : World) : Prop where
  size : w.heap.size ≤ w'.heap.size
  lim : Lim w w'
  keep : ∀ b o, w.heap[b]? = some o → ¬ S b → w'.heap[b]? = some o
theorem Stp.refl (S : Nat → Prop) (w : World) : Stp S w w := ⟨Nat.le_refl _, Lim.refl w, fun _ _ h _ => h⟩
theorem Stp.trans {S : Nat → Prop} {a b c : World} (h : Stp S a b) (k : Stp S b c) : Stp S a c := ⟨Nat.le_trans h.size k.size, h.lim.trans k.lim, fun r o ho hs => k.keep r o (h.keep r o ho hs) hs⟩
theorem Bel.stp {w w' : World} (h : Bel w w') (S : Nat → Prop) : Stp S w w' := ⟨h.size, h.lim, fun _ _ ho _ => h.heap ho⟩
theorem Stp.cell {S : Nat → Prop} {w w' : World} (h : Stp S w w') {b o : Nat} {v : Value} (hs : ¬ S b) (hc : w.cell? ⟨b, o, none⟩ = some v) : w'.cell? ⟨b, o, none⟩ = some v := by
  have hb := World.block_lt_of_cell? w ⟨b, o, none⟩ hc
  have h1 := h.keep b _ (Array.getElem?_eq_getElem hb) hs
  have h2 : w'.heap[b]? = w.heap[b]? := h1.trans (Array.getElem?_eq_getElem hb).symm
  exact (World.cell?_of_block (a := ⟨b, o, none⟩) h2).trans hc
theorem U.rel_len {C : Ctx} {w : World} {u : U} {cs : List Value} (h : u.rel C w cs) : cs.length = u.size := by
  cases u <;> simp only [U.rel] at h
  case lit => subst h; rfl
  case sym => subst h; rfl
  case nat => obtain ⟨_, rfl, _⟩ := h; rfl
  case zed => obtain ⟨_, _, rfl, _⟩ := h; rfl
  case rat => obtain ⟨_, _, _, rfl, _⟩ := h; rfl
  case rd => obtain ⟨_, _, _, rfl, _⟩ := h; rfl
  case raw => obtain ⟨rfl, _⟩ := h; rfl
  case ptr => obtain ⟨_, _, rfl⟩ := h; rfl
  case li => obtain ⟨_, rfl, _⟩ := h; rfl
  case inp => obtain ⟨rfl, _⟩ := h; rfl
  case ni => obtain ⟨_, rfl, _⟩ := h; rfl
  case rn => obtain ⟨_, rfl, _⟩ := h; rfl
  case rz => obtain ⟨_, _, rfl, _⟩ := h; rfl
  case rq => obtain ⟨_, _, _, rfl, _⟩ := h; rfl
  case sl => obtain ⟨_, rfl, _⟩ := h; rfl
  case pts => obtain ⟨_, _, rfl, _⟩ := h; rfl
  case ept => obtain ⟨_, _, rfl, _⟩ := h; rfl
  case any => obtain ⟨_, rfl⟩ := h; rfl
theorem V.rel_len {C : Ctx} {w : World} : ∀ {x : V} {cs : List Value}, x.rel C w cs → cs.length = x.size
  | [], cs, h => by simp only [V.rel] at h; subst h; rfl
  | u :: us, cs, h => by
    obtain ⟨c1, c2, rfl, h1, h2⟩ := h
    rw [List.length_append, U.rel_len h1, V.rel_len h2]
    rfl
theorem PtsAt.stp {S : Nat → Prop} {w w' : World} {G o k : Nat} {l : List (Rat × Rat)} (h : PtsAt S w G o l k) (hs : Stp S w w') : PtsAt S w' G o l k := fun i x hx => by
  obtain ⟨h1, r, h2, h3, h4⟩ := h i x hx
  exact ⟨h1, r, h2, fun j u hj => hs.cell h1 (h3 j u hj), h4.lim hs.lim⟩
theorem U.rel_stp {C : Ctx} {w w' : World} {u : U} {cs : List Value} (h : u.rel C w cs) (hs : Stp C.S w w') : u.rel C w' cs := by
  cases u <;> simp only [U.rel] at h ⊢
  case lit => exact h
  case sym => exact h
  case nat => obtain ⟨v, h1, h2, h3⟩ := h; exact ⟨v, h1, h2.lim hs.lim, h3⟩
  case zed => obtain ⟨a, b, h1, h2, h3⟩ := h; exact ⟨a, b, h1, h2.lim hs.lim, h3⟩
  case rat => obtain ⟨a, b, c, h1, h2, h3⟩ := h; exact ⟨a, b, c, h1, h2.lim hs.lim, h3⟩
  case rd => obtain ⟨a, b, c, h1, h2⟩ := h; exact ⟨a, b, c, h1, h2.lim hs.lim⟩
  case raw => exact ⟨h.1, h.2.lim hs.lim⟩
  case ptr => exact h
  case li => obtain ⟨v, h1, h2⟩ := h; exact ⟨v, h1, h2.lim hs.lim⟩
  case inp => exact ⟨h.1, h.2.1.lim hs.lim, h.2.2.lim hs.lim⟩
  case ni => obtain ⟨v, h1, h2, h3⟩ := h; exact ⟨v, h1, h2.lim hs.lim, h3⟩
  case rn => obtain ⟨v, h1, h2, h3⟩ := h; exact ⟨v, h1, h2.lim hs.lim, h3⟩
  case rz => obtain ⟨a, b, h1, h2, h3⟩ := h; exact ⟨a, b, h1, h2.lim hs.lim, h3⟩
  case rq => obtain ⟨a, b, c, h1, h2, h3⟩ := h; exact ⟨a, b, c, h1, h2.lim hs.lim, h3⟩
  case sl => obtain ⟨G, h1, h2, h3⟩ := h; exact ⟨G, h1, h2, fun i u hi => ⟨(h3 i u hi).1, hs.cell (h3 i u hi).1 (h3 i u hi).2⟩⟩
  case pts =>
    obtain ⟨p, c, h1, h2, h3⟩ := h
    exact ⟨p, c, h1, h2, fun hne => by obtain ⟨G, o, h4, h5⟩ := h3 hne; exact ⟨G, o, h4, h5.stp hs⟩⟩
  case ept => obtain ⟨G, o, h1, h2⟩ := h; exact ⟨G, o, h1, h2.stp hs⟩
  case any => exact h
/-- More boxes, and more blocks of the calls' own. -/
structure Ctx.le (w : World) (C C' : Ctx) : Prop where
  box : ∀ i r, C.β i = some r → C'.β i = some r
  own : ∀ b, b < w.heap.size → C'.S b → C.S b
theorem Ctx.le_refl (w : World) (C : Ctx) : Ctx.le w C C := ⟨fun _ _ h => h, fun _ _ h => h⟩
theorem PtsAt.le {S S' : Nat → Prop} {w : World} {G o k : Nat} {l : List (Rat × Rat)} (h : PtsAt S w G o l k) (hs : ∀ b, b < w.heap.size → S' b → S b) : PtsAt S' w G o l k := fun i x hx => by
  obtain ⟨h1, r, h2, h3, h4⟩ := h i x hx
  obtain ⟨u, hu⟩ : ∃ u, r[0]? = some u := ⟨_, List.getElem?_eq_getElem (by omega)⟩
  exact ⟨fun h => h1 (hs G (World.block_lt_of_cell? w _ (h3 0 u hu)) h), r, h2, h3, h4⟩
theorem U.rel_le {C C' : Ctx} {w : World} {u : U} {cs : List Value} (h : u.rel C w cs) (hs : Ctx.le w C C') : u.rel C' w cs := by
  cases u <;> simp only [U.rel] at h ⊢ <;> try exact h
  case ptr => obtain ⟨r, h1, h2⟩ := h; exact ⟨r, hs.box _ _ h1, h2⟩
  case sl => obtain ⟨G, h1, h2, h3⟩ := h; exact ⟨G, h1, h2, fun i u hi => ⟨fun h => (h3 i u hi).1 (hs.own G (World.block_lt_of_cell? w _ (h3 i u hi).2) h), (h3 i u hi).2⟩⟩
  case pts =>
    obtain ⟨p, c, h1, h2, h3⟩ := h
    exact ⟨p, c, h1, h2, fun hne => by obtain ⟨G, o, h4, h5⟩ := h3 hne; exact ⟨G, o, h4, h5.le hs.own⟩⟩
  case ept => obtain ⟨G, o, h1, h2⟩ := h; exact ⟨G, o, h1, h2.le hs.own⟩
section
variable {C C' : Ctx} {w w' : World}
theorem V.rel_stp : ∀ {x : V} {cs : List Value}, x.rel C w cs → Stp C.S w w' → x.rel C w' cs
  | [], _, h, _ => h
  | _ :: _, _, h, hs => by
    obtain ⟨c1, c2, h0, h1, h2⟩ := h
    exact ⟨c1, c2, h0, U.rel_stp h1 hs, V.rel_stp h2 hs⟩
theorem V.rel_le : ∀ {x : V} {cs : List Value}, x.rel C w cs → Ctx.le w C C' → x.rel C' w cs
  | [], _, h, _ => h
  | _ :: _, _, h, hs => by
    obtain ⟨c1, c2, h0, h1, h2⟩ := h
    exact ⟨c1, c2, h0, U.rel_le h1 hs, V.rel_le h2 hs⟩
theorem V.has_stp {x : V} {v : Value} (h : x.has C w v) (hs : Stp C.S w w') : x.has C w' v := let ⟨cs, h1, h2⟩ := h; ⟨cs, V.rel_stp h1 hs, h2⟩
theorem V.has_le {x : V} {v : Value} (h : x.has C w v) (hs : Ctx.le w C C') : x.has C' w v := let ⟨cs, h1, h2⟩ := h; ⟨cs, V.rel_le h1 hs, h2⟩
theorem V.all_stp : ∀ {l : List V} {vs : List Value}, V.hasAll C w l vs → Stp C.S w w' → V.hasAll C w' l vs
  | [], _, h, _ => h
  | _ :: _, _, h, hs => by obtain ⟨v, r, h0, h1, h2⟩ := h; exact ⟨v, r, h0, V.has_stp h1 hs, V.all_stp h2 hs⟩
theorem V.all_le : ∀ {l : List V} {vs : List Value}, V.hasAll C w l vs → Ctx.le w C C' → V.hasAll C' w l vs
  | [], _, h, _ => h
  | _ :: _, _, h, hs => by obtain ⟨v, r, h0, h1, h2⟩ := h; exact ⟨v, r, h0, V.has_le h1 hs, V.all_le h2 hs⟩
theorem T.rel_stp {t : T} {v : Value} (h : t.rel C w v) (hs : Stp C.S w w') : t.rel C w' v := by
  cases t with
  | one x => exact V.has_stp h hs
  | tup l => obtain ⟨vs, h1, h2⟩ := h; exact ⟨vs, h1, V.all_stp h2 hs⟩
theorem T.rel_le {t : T} {v : Value} (h : t.rel C w v) (hs : Ctx.le w C C') : t.rel C' w v := by
  cases t with
  | one x => exact V.has_le h hs
  | tup l => obtain ⟨vs, h1, h2⟩ := h; exact ⟨vs, h1, V.all_le h2 hs⟩
end
/-- A number in its cells. -/
def U.parts : U → V
  | .rat q k => [.sym (.bool (decide (q.num < 0))), .nat q.num.natAbs k, .nat q.den k]
  | .zed x k => [.sym (.bool (decide (x < 0))), .nat x.natAbs k]
  | .raw a b c _ _ => [.sym a, .sym b, .sym c]
  | .inp s _ _ l m k => [.sym (.bool s), .li l k, .li m k]
  | .rq q k => [.sym (.bool (decide (q.num < 0))), .rn q.num.natAbs k, .rn q.den k]
  | .rz x k => [.sym (.bool (decide (x < 0))), .rn x.natAbs k]
  | u => [u]
def V.open : V → V
  | [] => []
  | u :: r => u.parts ++ V.open r
def V.takeN : V → Nat → Option V
  | [], n => bif n == 0 then some [] else none
  | u :: r, n => bif n == 0 then some [] else bif u.size.ble n then (V.takeN r (n - u.size)).map (u :: ·) else none
def V.dropN : V → Nat → Option V
  | [], n => bif n == 0 then some [] else none
  | u :: r, n => bif n == 0 then some (u :: r) else bif u.size.ble n then V.dropN r (n - u.size) else none
def V.grab1 (c : V) (o n : Nat) : Option V := (V.dropN c o).bind (V.takeN · n)
def V.grab (c : V) (o n : Nat) : Option V := match V.grab1 c o n with | some x => some x | none => V.grab1 (V.open c) o n
def V.put1 : V → Nat → Nat → V → Option V
  | [], o, n, x => bif o == 0 && n == 0 then some x else none
  | u :: r, o, n, x => bif o == 0 then (V.dropN (u :: r) n).map (x ++ ·) else bif u.size.ble o then (V.put1 r (o - u.size) n x).map (u :: ·) else none
def V.put (c : V) (o n : Nat) (x : V) : Option V := match V.put1 c o n x with | some y => some y | none => V.put1 (V.open c) o n x
/-- A cell that holds no limb. -/
def plainV : Value → Bool
  | .bool _ | .string _ | .pointer _ | .slice _ _ _ | .func _ _ _ | .nilFunc => true
  | .int .u64 _ | .int .u32 _ => false
  | .int _ _ => true
  | _ => false
def U.fine : U → Bool
  | .lit v | .sym v => plainV v
  | .raw a b c _ _ => plainV a && plainV b && plainV c
  | .any => false
  | _ => true
def V.fine : V → Bool
  | [] => true
  | u :: r => u.fine && V.fine r
theorem plain_one {v : Value} (h : plainV v = true) : v.oneCell' = true := by
  cases v <;> first | rfl | cases h
theorem plain_noNum : ∀ {l : List Value}, (∀ v ∈ l, plainV v = true) → noNum l = true
  | [], _ => rfl
  | v :: l, h => by
    have h1 := h v (by simp)
    have h2 := plain_noNum (l := l) (fun u hu => h u (by simp [hu]))
    cases v with
    | int k x => cases k <;> first | exact h2 | cases h1
    | _ => exact h2
section
variable {C : Ctx} {w : World}
theorem U.parts_rel {u : U} {cs : List Value} (h : u.rel C w cs) : V.rel C w u.parts cs := by
  have self : ∀ u : U, u.rel C w cs → V.rel C w [u] cs := fun u h => ⟨cs, [], by simp, h, rfl⟩
  cases u <;> first | exact self _ h | skip
  case rat q k =>
    obtain ⟨a, b, c, rfl, ⟨h1, h2⟩, -⟩ := h
    obtain ⟨x, y, he, h3, h4⟩ := h1
    simp only [Value.agg.injEq, Array.mk.injEq, List.cons.injEq, and_true] at he
    obtain ⟨rfl, rfl, rfl⟩ := he
    exact ⟨[_], [_, _], rfl, rfl, [_], [_], rfl, ⟨_, rfl, h3, h2.1⟩, [_], [], rfl, ⟨_, rfl, h4, h2.2⟩, rfl⟩
  case zed x k =>
    obtain ⟨a, b, rfl, h1, h2⟩ := h
    obtain ⟨u, he, h3⟩ := h1
    simp only [Value.agg.injEq, Array.mk.injEq, List.cons.injEq, and_true] at he
    obtain ⟨rfl, rfl⟩ := he
    exact ⟨[_], [_], rfl, rfl, [_], [], rfl, ⟨_, rfl, h3, h2⟩, rfl⟩
  case raw a b c q k =>
    obtain ⟨rfl, -⟩ := h
    exact ⟨[_], [_, _], rfl, rfl, [_], [_], rfl, rfl, [_], [], rfl, rfl, rfl⟩
  case inp s b c l m k =>
    obtain ⟨rfl, h1, h2⟩ := h
    exact ⟨[_], [_, _], rfl, rfl, [_], [_], rfl, ⟨_, rfl, h1⟩, [_], [], rfl, ⟨_, rfl, h2⟩, rfl⟩
  case rq q k =>
    obtain ⟨a, b, c, rfl, h1, h2⟩ := h
    obtain ⟨x, y, he, h3, h4⟩ := h1
    simp only [Value.agg.injEq, Array.mk.injEq, List.cons.injEq, and_true] at he
    obtain ⟨rfl, rfl, rfl⟩ := he
    exact ⟨[_], [_, _], rfl, rfl, [_], [_], rfl, ⟨_, rfl, h3, h2.1⟩, [_], [], rfl, ⟨_, rfl, h4, h2.2⟩, rfl⟩
  case rz x k =>
    obtain ⟨a, b, rfl, h1, h2⟩ := h
    obtain ⟨u, he, h3⟩ := h1
    simp only [Value.agg.injEq, Array.mk.injEq, List.cons.injEq, and_true] at he
    obtain ⟨rfl, rfl⟩ := he
    exact ⟨[_], [_], rfl, rfl, [_], [], rfl, ⟨_, rfl, h3, h2⟩, rfl⟩
theorem V.rel_append : ∀ {x y : V} {cs ds : List Value}, x.rel C w cs → y.rel C w ds → V.rel C w (x ++ y) (cs ++ ds)
  | [], _, _, _, hx, hy => by simp only [V.rel] at hx; subst hx; exact hy
  | u :: r, y, _, ds, hx, hy => by
    obtain ⟨c1, c2, rfl, h1, h2⟩ := hx
    exact ⟨c1, c2 ++ ds, by simp, h1, V.rel_append h2 hy⟩
theorem V.open_rel : ∀ {x : V} {cs : List Value}, x.rel C w cs → V.rel C w x.open cs
  | [], _, h => h
  | u :: r, _, h => by
    obtain ⟨c1, c2, rfl, h1, h2⟩ := h
    exact V.rel_append (U.parts_rel h1) (V.open_rel h2)
theorem V.takeN_rel : ∀ {c : V} {cs : List Value} {n : Nat} {x : V}, c.rel C w cs → V.takeN c n = some x → n ≤ cs.length ∧ x.rel C w (cs.take n)
  | [], cs, n, x, h, he => by
    simp only [V.takeN] at he
    cases hn : n == 0
    · rw [hn] at he; cases he
    · rw [hn] at he
      simp only [beq_iff_eq] at hn
      subst hn
      cases he
      exact ⟨Nat.zero_le _, rfl⟩
  | u :: r, cs, n, x, h, he => by
    simp only [V.takeN] at he
    cases hn : n == 0
    · rw [hn] at he
      simp only [cond_false] at he
      cases hu : u.size.ble n
      · rw [hu] at he; cases he
      · rw [hu] at he
        simp only [cond_true] at he
        have hle := Nat.le_of_ble_eq_true hu
        obtain ⟨c1, c2, rfl, h1, h2⟩ := h
        have hl := U.rel_len h1
        cases hr : V.takeN r (n - u.size) with
        | none => rw [hr] at he; cases he
        | some y =>
          rw [hr] at he
          cases he
          obtain ⟨h3, h4⟩ := V.takeN_rel h2 hr
          refine ⟨by simp; omega, c1, c2.take (n - u.size), ?_, h1, h4⟩
          rw [List.take_append, List.take_of_length_le (by omega), hl]
    · rw [hn] at he
      simp only [beq_iff_eq] at hn
      subst hn
      cases he
      exact ⟨Nat.zero_le _, rfl⟩
theorem V.dropN_rel : ∀ {c : V} {cs : List Value} {n : Nat} {x : V}, c.rel C w cs → V.dropN c n = some x → n ≤ cs.length ∧ x.rel C w (cs.drop n)
  | [], cs, n, x, h, he => by
    simp only [V.dropN] at he
    cases hn : n == 0
    · rw [hn] at he; cases he
    · rw [hn] at he
      simp only [beq_iff_eq] at hn
      subst hn
      cases he
      exact ⟨Nat.zero_le _, by simpa using h⟩
  | u :: r, cs, n, x, h, he => by
    simp only [V.dropN] at he
    cases hn : n == 0
    · rw [hn] at he
      simp only [cond_false] at he
      cases hu : u.size.ble n
      · rw [hu] at he; cases he
      · rw [hu] at he
        simp only [cond_true] at he
        have hle := Nat.le_of_ble_eq_true hu
        obtain ⟨c1, c2, rfl, h1, h2⟩ := h
        have hl := U.rel_len h1
        obtain ⟨h3, h4⟩ := V.dropN_rel h2 he
        refine ⟨by simp; omega, ?_⟩
        rw [List.drop_append, List.drop_of_length_le (by omega), hl]
        exact h4
    · rw [hn] at he
      simp only [beq_iff_eq] at hn
      subst hn
      cases he
      exact ⟨Nat.zero_le _, by simpa using h⟩
theorem V.grab1_rel {c : V} {cs : List Value} {o n : Nat} {x : V} (h : c.rel C w cs) (he : V.grab1 c o n = some x) : o + n ≤ cs.length ∧ x.rel C w ((cs.drop o).take n) := by
  unfold V.grab1 at he
  cases hd : V.dropN c o with
  | none => rw [hd] at he; cases he
  | some y =>
    rw [hd] at he
    obtain ⟨h1, h2⟩ := V.dropN_rel h hd
    obtain ⟨h3, h4⟩ := V.takeN_rel h2 he
    rw [List.length_drop] at h3
    exact ⟨by omega, h4⟩
theorem V.grab_rel {c : V} {cs : List Value} {o n : Nat} {x : V} (h : c.rel C w cs) (he : V.grab c o n = some x) : o + n ≤ cs.length ∧ x.rel C w ((cs.drop o).take n) := by
  unfold V.grab at he
  split at he
  · rename_i y hy
    cases he
    exact V.grab1_rel h hy
  · exact V.grab1_rel (V.open_rel h) he
theorem V.put1_rel : ∀ {c : V} {cs : List Value} {o n : Nat} {x c' : V} {vs : List Value}, c.rel C w cs → V.put1 c o n x = some c' → x.rel C w vs → vs.length = n → ∃ p old s, cs = p ++ old ++ s ∧ p.length = o ∧ old.length = n ∧ c'.rel C w (p ++ vs ++ s)
  | [], cs, o, n, x, c', vs, h, he, hx, hn => by
    simp only [V.put1] at he
    cases hb : (o == 0 && n == 0)
    · rw [hb] at he; cases he
    · rw [hb] at he
      simp only [Bool.and_eq_true, beq_iff_eq] at hb
      obtain ⟨rfl, rfl⟩ := hb
      cases he
      simp only [V.rel] at h
      subst h
      have := List.length_eq_zero_iff.1 hn
      subst this
      exact ⟨[], [], [], rfl, rfl, rfl, hx⟩
  | u :: r, cs, o, n, x, c', vs, h, he, hx, hn => by
    simp only [V.put1] at he
    cases ho : o == 0
    · rw [ho] at he
      simp only [cond_false] at he
      cases hu : u.size.ble o
      · rw [hu] at he; cases he
      · rw [hu] at he
        simp only [cond_true] at he
        have hle := Nat.le_of_ble_eq_true hu
        obtain ⟨c1, c2, rfl, h1, h2⟩ := h
        have hl := U.rel_len h1
        cases hr : V.put1 r (o - u.size) n x with
        | none => rw [hr] at he; cases he
        | some y =>
          rw [hr] at he
          cases he
          obtain ⟨p, old, s, rfl, h3, h4, h5⟩ := V.put1_rel h2 hr hx hn
          exact ⟨c1 ++ p, old, s, by simp, by simp; omega, h4, c1, p ++ vs ++ s, by simp, h1, h5⟩
    · rw [ho] at he
      simp only [beq_iff_eq] at ho
      subst ho
      simp only [cond_true] at he
      cases hd : V.dropN (u :: r) n with
      | none => rw [hd] at he; cases he
      | some y =>
        rw [hd] at he
        cases he
        obtain ⟨h1, h2⟩ := V.dropN_rel h hd
        exact ⟨[], cs.take n, cs.drop n, by simp, rfl, by rw [List.length_take]; omega, V.rel_append hx h2⟩
theorem V.put_rel {c : V} {cs : List Value} {o n : Nat} {x c' : V} {vs : List Value} (h : c.rel C w cs) (he : V.put c o n x = some c') (hx : x.rel C w vs) (hn : vs.length = n) : ∃ p old s, cs = p ++ old ++ s ∧ p.length = o ∧ old.length = n ∧ c'.rel C w (p ++ vs ++ s) := by
  unfold V.put at he
  split at he
  · rename_i y hy
    cases he
    exact V.put1_rel h hy hx hn
  · exact V.put1_rel (V.open_rel h) he hx hn
theorem U.plain {u : U} {cs : List Value} (h : u.rel C w cs) (hf : u.fine = true) : ∀ v ∈ cs, plainV v = true := by
  have hs : ∀ {n : Nat} {v : Value}, NC w v n → plainV v = true := fun h => by obtain ⟨p, c, rfl, _⟩ := h; rfl
  have hi : ∀ {n : Nat} {v : Value}, NI w v n → plainV v = true := fun h => by obtain ⟨p, c, l, rfl, _⟩ := h; rfl
  have hr : ∀ {n : Nat} {v : Value}, NR w v n → plainV v = true := fun h => by obtain ⟨p, c, rfl, _⟩ := h; rfl
  cases u <;> simp only [U.rel] at h
  case lit v => subst h; intro u hu; simp at hu; subst hu; exact hf
  case sym v => subst h; intro u hu; simp at hu; subst hu; exact hf
  case nat => obtain ⟨v, rfl, h1, _⟩ := h; intro u hu; simp at hu; subst hu; exact hs h1
  case zed =>
    obtain ⟨a, b, rfl, ⟨x, he, h1⟩, _⟩ := h
    simp only [Value.agg.injEq, Array.mk.injEq, List.cons.injEq, and_true] at he
    obtain ⟨rfl, rfl⟩ := he
    intro u hu; simp at hu; rcases hu with rfl | rfl
    · rfl
    · exact hs h1
  case rat =>
    obtain ⟨a, b, c, rfl, ⟨⟨x, y, he, h1, h2⟩, _⟩, _⟩ := h
    simp only [Value.agg.injEq, Array.mk.injEq, List.cons.injEq, and_true] at he
    obtain ⟨rfl, rfl, rfl⟩ := he
    intro u hu; simp at hu; rcases hu with rfl | rfl | rfl
    · rfl
    · exact hs h1
    · exact hs h2
  case rd =>
    obtain ⟨a, b, c, rfl, ⟨s, x, y, _, _, he, h1, h2, _⟩, _⟩ := h
    simp only [Value.agg.injEq, Array.mk.injEq, List.cons.injEq, and_true] at he
    obtain ⟨rfl, rfl, rfl⟩ := he
    intro u hu; simp at hu; rcases hu with rfl | rfl | rfl
    · rfl
    · exact hi h1
    · exact hi h2
  case raw a b c q k =>
    obtain ⟨rfl, _⟩ := h
    simp only [U.fine, Bool.and_eq_true] at hf
    intro u hu; simp at hu; rcases hu with rfl | rfl | rfl
    · exact hf.1.1
    · exact hf.1.2
    · exact hf.2
  case ptr => obtain ⟨_, _, rfl⟩ := h; intro u hu; simp at hu; subst hu; rfl
  case li => obtain ⟨v, rfl, p, c, rfl, _⟩ := h; intro u hu; simp at hu; subst hu; rfl
  case inp =>
    obtain ⟨rfl, ⟨p, c, rfl, _⟩, p', c', rfl, _⟩ := h
    intro u hu; simp at hu; rcases hu with rfl | rfl | rfl <;> rfl
  case ni => obtain ⟨v, rfl, h1, -⟩ := h; intro u hu; simp at hu; subst hu; exact hi h1
  case rn => obtain ⟨v, rfl, h1, -⟩ := h; intro u hu; simp at hu; subst hu; exact hr h1
  case rz =>
    obtain ⟨a, b, rfl, ⟨x, he, h1⟩, -⟩ := h
    simp only [Value.agg.injEq, Array.mk.injEq, List.cons.injEq, and_true] at he
    obtain ⟨rfl, rfl⟩ := he
    intro u hu; simp at hu; rcases hu with rfl | rfl
    · rfl
    · exact hr h1
  case rq =>
    obtain ⟨a, b, c, rfl, ⟨x, y, he, h1, h2⟩, -⟩ := h
    simp only [Value.agg.injEq, Array.mk.injEq, List.cons.injEq, and_true] at he
    obtain ⟨rfl, rfl, rfl⟩ := he
    intro u hu; simp at hu; rcases hu with rfl | rfl | rfl
    · rfl
    · exact hr h1
    · exact hr h2
  case sl => obtain ⟨_, rfl, _⟩ := h; intro u hu; simp at hu; subst hu; rfl
  case pts => obtain ⟨_, _, rfl, _⟩ := h; intro u hu; simp at hu; subst hu; rfl
  case ept => obtain ⟨_, _, rfl, _⟩ := h; intro u hu; simp at hu; subst hu; rfl
  case any => cases hf
theorem V.plain : ∀ {x : V} {cs : List Value}, x.rel C w cs → x.fine = true → ∀ v ∈ cs, plainV v = true
  | [], cs, h, _ => by simp only [V.rel] at h; subst h; simp
  | u :: r, cs, h, hf => by
    obtain ⟨c1, c2, rfl, h1, h2⟩ := h
    simp only [V.fine, Bool.and_eq_true] at hf
    intro v hv
    rcases List.mem_append.1 hv with hv | hv
    · exact U.plain h1 hf.1 v hv
    · exact V.plain h2 hf.2 v hv
end
def look {α : Type} : List (Nat × α) → Nat → Option α
  | [], _ => none
  | (k, a) :: r, n => bif k == n then some a else look r n
def nth {α : Type} : List α → Nat → Option α
  | [], _ => none
  | a :: _, 0 => some a
  | _ :: l, n + 1 => nth l n
theorem nth_eq {α : Type} : ∀ (l : List α) (n : Nat), nth l n = l[n]?
  | [], _ => rfl
  | _ :: _, 0 => rfl
  | _ :: l, n + 1 => by rw [List.getElem?_cons_succ]; exact nth_eq l n
inductive Kd where
  | str (offs szs : List Nat)
  | arr (n sz : Nat)
  | slc (sz : Nat)
  | int (k : IntKind)
  | bool
  | other
structure Ty where
  size : Nat
  zero : V
  kd : Kd
structure Box where
  ty : TypeId
  us : V
structure St where
  slots : List (Option T)
  boxes : List (Nat × Box)
  next : Nat
/-- What comes out: by cases, under conditions. -/
inductive Out (α : Type) where
  | fail
  | leaf (x : α)
  | need (p : Prop) (k : Out α)
  | chk (b : Bool) (k : Out α)
  | br (b : Bool) (x y : Out α)
abbrev Con := List V → Out T
structure Env where
  P : Program
  con : List (FuncId × Con)
  ty : List (TypeId × Ty)
/-- What an operation does: it yields a value, makes a box, writes into one, calls. -/
inductive Eff where
  | val (t : T)
  | new (B : Box)
  | put (b o n : Nat) (x c : V)
  | call (f : FuncId) (args : List V)
/-! ### Types -/
def Kd.row : Kd → Bool
  | .str _ _ | .arr _ _ => true
  | _ => false
def rowAt (P : Program) (t : TypeId) : Option (Nat × Bool) := match P.info? t, P.underlying t with
  | some i, some d => some (i.size, d.isRow)
  | _, _ => none
def DescOk (P : Program) : TypeDesc → Kd → Prop
  | .struct fs, .str offs szs => fs.toList.map (·.offset) = offs ∧ fs.toList.map (fun f => rowAt P f.type) = szs.map (fun n => some (n, !(n == 1))) ∧ 0 ∉ szs
  | .array n e, .arr m sz => n = m ∧ rowAt P e = some (sz, !(sz == 1))
  | .slice e, .slc sz => (P.info? e).map (fun i => (i.size, i.zero.isSome)) = some (sz, true)
  | .int k, .int k' => k = k'
  | .bool, .bool => True
  | .struct _, .other | .array _ _, .other => False
  | _, .other => True
  | _, _ => False
structure TyOk (P : Program) (t : TypeId) (y : Ty) : Prop where
  info : ∃ i, P.info? t = some i ∧ i.size = y.size ∧ ∃ z, i.zero = some z ∧ z.cells.size = y.size ∧ ∀ C w, y.zero.rel C w z.cells.toList
  desc : ∃ d, P.underlying t = some d ∧ DescOk P d y.kd
  row : y.kd.row = !(y.size == 1)
  fine : y.zero.fine = true
theorem DescOk.isRow {P : Program} {d : TypeDesc} {k : Kd} (h : DescOk P d k) : d.isRow = k.row := by
  cases d <;> cases k <;> first | rfl | exact h.elim
/-! ### Values -/
def intBin (op : BinOp) (k : IntKind) (x y : Int) : Option Value :=
  match op with
  | .add => some (.int k (k.wrap (x + y)))
  | .sub => some (.int k (k.wrap (x - y)))
  | .mul => some (.int k (k.wrap (x * y)))
  | .eql => some (.bool (x == y))
  | .neq => some (.bool (x != y))
  | .lss => some (.bool (decide (x < y)))
  | .leq => some (.bool (decide (x ≤ y)))
  | .gtr => some (.bool (decide (x > y)))
  | .geq => some (.bool (decide (x ≥ y)))
  | _ => none
def strBin (op : BinOp) (x y : ByteArray) : Option Value :=
  match op with
  | .eql => some (.bool (x.toList == y.toList))
  | .neq => some (.bool (!(x.toList == y.toList)))
  | _ => none
def boolBin (op : BinOp) (x y : Bool) : Option Value :=
  match op with
  | .eql => some (.bool (x == y))
  | .neq => some (.bool (!(x == y)))
  | _ => none
def binV (kd : Kd) (op : BinOp) : Value → Value → Option Value
  | .int k x, .int k' y => if k = k' then intBin op k x y else none
  | .string x, .string y => strBin op x y
  | .bool x, .bool y => match kd with | .bool => boolBin op x y | _ => none
  | _, _ => none
def unV (op : UnOp) : Value → Option Value
  | .int k x => match op with | .neg => some (.int k (k.wrap (0 - x))) | _ => none
  | .bool b => match op with | .not => some (.bool !b) | _ => none
  | _ => none
def U.mk (l : Bool) (v : Value) : U := match l with | true => .lit v | false => .sym v
def U.val : U → Option (Bool × Value)
  | .lit v => some (true, v)
  | .sym v => some (false, v)
  | _ => none
def U.len : U → Option U
  | .lit (.slice _ n _) => some (.lit (.int .i64 n))
  | .sym (.slice _ n _) => some (.sym (.int .i64 n))
  | .nat n _ => some (.sym (.int .i64 ((limB B64 n).length : Nat)))
  | .rn n _ => some (.sym (.int .i64 ((limB B32 n).length : Nat)))
  | .li l _ => some (.sym (.int .i64 (l.length : Nat)))
  | .sl _ n _ => some (.lit (.int .i64 (n : Nat)))
  | .pts l _ => some (.sym (.int .i64 (l.length : Nat)))
  | _ => none
def constOk : Value → Bool
  | .agg _ | .tuple _ => false
  | _ => true
def St.opd (st : St) : Operand → Option T
  | .tmp t => (nth st.slots t).getD none
  | .const v => bif constOk v then some (.one [.lit v]) else none
  | .func f => some (.one [.lit (.func (.func f) #[] #[])])
  | .global _ => none
def ones : List (Option T) → Option (List V)
  | [] => some []
  | some (.one v) :: r => (ones r).map (v :: ·)
  | _ :: _ => none
/-- Parts put into a zero value's cells. -/
def fillV (place : Nat → Option (Nat × Nat)) (c : V) : List (Nat × Option T) → Option V
  | [] => some c
  | (i, some (.one x)) :: r => match place i with
    | some (o, n) => bif V.size x == n && V.fine x then (match V.put c o n x with | some c' => fillV place c' r | none => none) else none
    | none => none
  | _ :: _ => none
def zipN : List Nat → List Nat → Nat → Option (Nat × Nat)
  | o :: _, n :: _, 0 => some (o, n)
  | _ :: os, _ :: ns, i + 1 => zipN os ns i
  | _, _, _ => none
def Kd.place : Kd → Nat → Option (Nat × Nat)
  | .str offs szs, i => zipN offs szs i
  | .arr _ sz, i => some (i * sz, sz)
  | _, _ => none
def anys : Nat → V
  | 0 => []
  | n + 1 => .any :: anys n
/-- Cells that are known as they are. -/
def exacts : V → Option (List Value)
  | [] => some []
  | .lit v :: r | .sym v :: r => (exacts r).map (v :: ·)
  | .raw a b c _ _ :: r => (exacts r).map fun l => a :: b :: c :: l
  | .inp s b c _ _ _ :: r => (exacts r).map fun l => .bool s :: b :: c :: l
  | _ :: _ => none
/-- Points, each of two fractions. -/
def ptsOf : V → Option (List (Rat × Rat) × Nat)
  | [] => some ([], 0)
  | .rat q i :: .rat r j :: l => (ptsOf l).map fun p => ((q, r) :: p.1, (i.max j).max p.2)
  | .rd q i :: .rd r j :: l => (ptsOf l).map fun p => ((q, r) :: p.1, (i.max j).max p.2)
  | _ => none
def litIx : U → Option Nat
  | .lit (.int _ (.ofNat n)) => some n
  | _ => none
def opEval (E : Env) (st : St) (op : Op) : Option Eff :=
  match op with
  | .move x | .assign x => (st.opd x).map fun t => .val t
  | .pick c a b => match st.opd c with
    | some (.one [.lit (.bool true)]) => (st.opd a).map fun t => .val t
    | some (.one [.lit (.bool false)]) => (st.opd b).map fun t => .val t
    | _ => none
  | .alloc t => (look E.ty t).map fun y => (.new ⟨t, y.zero⟩)
  | .box t x => match st.opd x, look E.ty t with
    | some (.one v), some y => bif V.size v == y.size && V.fine v then some (.new ⟨t, v⟩) else none
    | _, _ => none
  | .build t parts => match look E.ty t with
    | some y => bif y.kd.row then (fillV y.kd.place y.zero (parts.toList.map fun p => (p.1, st.opd p.2))).map fun v => (.val (.one v)) else none
    | none => none
  | .buildSlice t n parts => match look E.ty t with
    | some y => match y.kd with
      | .slc sz => bif (n * sz).ble 16777216 then (match fillV (fun i => some (i * sz, sz)) (anys (n * sz)) (parts.toList.map fun p => (p.1, st.opd p.2)) with
        | some c => match exacts c with
          | some l => bif l.length == n * sz then some (.val (.one [.sl l n sz])) else none
          | none => none
        | none => none) else none
      | _ => none
    | none => none
  | .load t x => match st.opd x, look E.ty t with
    | some (.one [.ptr b o]), some y => match look st.boxes b with
      | some B => (V.grab B.us o y.size).map fun v => (.val (.one v))
      | none => none
    | _, _ => none
  | .store t x y => match st.opd x, st.opd y, look E.ty t with
    | some (.one [.ptr b o]), some (.one v), some z => bif V.size v == z.size && V.fine v then (match look st.boxes b with
      | some B => (V.put B.us o z.size v).map fun c => (.put b o z.size v c)
      | none => none) else none
    | _, _, _ => none
  | .binOp op t x y _ => match st.opd x, st.opd y, look E.ty t with
    | some (.one [u]), some (.one [v]), some z => match u.val, v.val with
      | some (l, a), some (m, b) => (binV z.kd op a b).map fun r => (.val (.one [.mk (l && m) r]))
      | _, _ => none
    | _, _, _ => none
  | .unOp op _ x => match st.opd x with
    | some (.one [u]) => match u.val with
      | some (l, a) => (unV op a).map fun r => (.val (.one [.mk l r]))
      | none => none
    | _ => none
  | .convert s d x => match st.opd x, look E.ty s, look E.ty d with
    | some (.one [u]), some _, some z => match u.val, z.kd with
      | some (l, .int _ n), .int k => some (.val (.one [.mk l (.int k (k.wrap n))]))
      | _, _ => none
    | _, _, _ => none
  | .fieldAddr t x f => match st.opd x, look E.ty t with
    | some (.one [.ptr b o]), some y => match y.kd with
      | .str offs szs => (zipN offs szs f).map fun p => (.val (.one [.ptr b (o + p.1)]))
      | _ => none
    | _, _ => none
  | .field t x f => match st.opd x, look E.ty t with
    | some (.one v), some y => match y.kd with
      | .str offs szs => match zipN offs szs f with
        | some (o, n) => bif V.size v == y.size then (V.grab v o n).map fun r => (.val (.one r)) else none
        | none => none
      | _ => none
    | _, _ => none
  | .indexAddr t x i => match st.opd x, st.opd i, look E.ty t with
    | some (.one [.ptr b o]), some (.one [u]), some y => match y.kd, litIx u with
      | .arr n sz, some k => bif k.blt n then some (.val (.one [.ptr b (o + k * sz)])) else none
      | _, _ => none
    | _, _, _ => none
  | .index t x i => match st.opd x, st.opd i, look E.ty t with
    | some (.one v), some (.one [u]), some y => match y.kd, litIx u with
      | .arr n sz, some k => bif k.blt n && (V.size v == y.size) then (V.grab v (k * sz) sz).map fun r => (.val (.one r)) else none
      | _, _ => none
    | _, _, _ => none
  | .extract x i => match st.opd x with
    | some (.tup l) => (nth l i).map fun v => (.val (.one v))
    | _ => none
  | .call c => match c.callee with
    | .value f => match st.opd f, ones (c.args.toList.map st.opd) with
      | some (.one [.lit (.func (.func g) first caps)]), some vs => bif first.isEmpty && caps.isEmpty then some (.call g vs) else none
      | _, _ => none
    | .builtin .len => match c.args.toList.map st.opd, c.argTypes.toList with
      | [some (.one [u])], [t] => match look E.ty t with
        | some y => match y.kd with
          | .slc _ => u.len.map fun r => (.val (.one [r]))
          | _ => none
        | none => none
      | _, _ => none
    | _ => none
  | _ => none
structure Sees (C : Ctx) (w : World) (st : St) (a : Act) : Prop where
  slot : ∀ t x, nth st.slots t = some (some x) → ∃ v, a.tmps[t]? = some v ∧ T.rel C w x v
  box : ∀ b B, look st.boxes b = some B → ∃ r cs, C.β b = some r ∧ w.heap[r]? = some (.cells (List.toArray cs) B.ty (0, 0)) ∧ B.us.rel C w cs ∧ ∀ v ∈ cs, plainV v = true
def Eff.does (P : Program) (C : Ctx) (st : St) (a : Act) (w : World) (o : Oper) : Eff → Prop
  | .val t => ∃ v w', (execOp a.eval o).run P w = .ok (.value v) w' ∧ Bel w w' ∧ t.rel C w' v
  | .new B => ∃ cs, (execOp a.eval o).run P w = .ok (.value (.pointer (some ⟨w.heap.size, 0, none⟩))) (w.alloc (.cells (List.toArray cs) B.ty)) ∧ B.us.rel C w cs ∧ ∀ v ∈ cs, plainV v = true
  | .put b off _ _ c => ∃ B r p old s vs, look st.boxes b = some B ∧ C.β b = some r ∧ w.heap[r]? = some (.cells (List.toArray (p ++ old ++ s)) B.ty (0, 0)) ∧ p.length = off ∧ old.length = vs.length ∧ c.rel C w (p ++ vs ++ s) ∧ (∀ v ∈ vs, plainV v = true) ∧
      (execOp a.eval o).run P w = .ok .skip (w.setCells r off vs)
  | .call f args => ∃ vs, (execOp a.eval o).run P w = (callFunc f (List.toArray vs)).run P w ∧ V.hasAll C w args vs
section
variable {E : Env} {C : Ctx} {w : World} {st : St} {a : Act}
theorem u_rel {u : U} {v : Value} (h : T.rel C w (.one [u]) v) (hs : u.size = 1) : u.rel C w [v] := by
  obtain ⟨cs, ⟨c1, c2, rfl, h1, h2⟩, rfl⟩ := h
  simp only [V.rel] at h2
  subst h2
  have hl := U.rel_len h1
  rw [hs] at hl
  match c1, hl with
  | [x], _ => exact h1
theorem one_of {u : U} {v : Value} (h : u.rel C w [v]) : T.rel C w (.one [u]) v := ⟨[v], ⟨[v], [], rfl, h, rfl⟩, rfl⟩
theorem pack_cells {cs : List Value} (h : ∀ v ∈ cs, plainV v = true) : (pack cs).cells = cs.toArray := by
  match cs, h with
  | [], _ => rfl
  | [v], h =>
    have := h v (by simp)
    cases v <;> first | rfl | cases this
  | _ :: _ :: _, _ => rfl
theorem pack_agg {cs : List Value} (h : cs.length ≠ 1) : pack cs = .agg cs.toArray := by
  match cs, h with
  | [], _ => rfl
  | [v], h => exact absurd rfl h
  | _ :: _ :: _, _ => rfl
theorem Sees.opd (h : Sees C w st a) {x : Operand} {t : T} (hx : st.opd x = some t) : t.rel C w (a.eval x) := by
  cases x with
  | tmp n =>
    simp only [St.opd] at hx
    cases hn : nth st.slots n with
    | none => rw [hn] at hx; cases hx
    | some y =>
      rw [hn] at hx
      simp only [Option.getD_some] at hx
      subst hx
      obtain ⟨v, h1, h2⟩ := h.slot n t hn
      simp only [Act.eval, Array.getD_eq_getD_getElem?, h1, Option.getD_some]
      exact h2
  | const v =>
    simp only [St.opd] at hx
    cases hc : constOk v
    · rw [hc] at hx; cases hx
    · rw [hc] at hx
      cases hx
      exact one_of rfl
  | func f => cases hx; exact one_of rfl
  | global g => cases hx
theorem val_of {u : U} {l : Bool} {v : Value} (h : u.val = some (l, v)) {x : Value} (hr : T.rel C w (.one [u]) x) : x = v := by
  cases u <;> simp only [U.val, Option.some.injEq, Prod.mk.injEq] at h <;> first | (cases h; done) | skip
  all_goals
    obtain ⟨-, rfl⟩ := h
    have := u_rel hr rfl
    simpa [U.rel] using this
theorem mk_rel {l : Bool} {v : Value} : T.rel C w (.one [.mk l v]) v := by
  cases l <;> exact one_of rfl
theorem run_v {P : Program} {o : Oper} {ρ : Operand → Value} {s : Sem Value} {v : Value} {w w' : World} (he : execOp ρ o = (do pure (.value (← s)))) (h : s.run P w = .ok v w') : (execOp ρ o).run P w = .ok (.value v) w' := by
  rw [he, Sem.run_bind, h]
  rfl
theorem bool_run {P : Program} {t : TypeId} (hd : P.underlying t = some .bool) {op : BinOp} {p q : Bool} {r : Value} (h : boolBin op p q = some r) (x y : Operand) (w : World) :
    (do eqGuard op t x y (.bool p) (.bool q); binOp op t (.bool p) (.bool q) : Sem Value).run P w = .ok r w := by
  have hg : (eqGuard op t x y (.bool p) (.bool q)).run P w = .ok () w := by cases op <;> simp [eqGuard]
  have he : (Op.equal t (.bool p) (.bool q)).run P w = .ok (p == q) w := run_equalIn_bool w 9999 t p q hd
  rw [Sem.run_bind, hg]
  cases op <;> simp only [boolBin, Option.some.injEq, reduceCtorEq] at h
  · subst h
    simp only [Result.andThen_ok, binOp, Sem.run_bind, he, Sem.run_pure]
  · subst h
    simp only [Result.andThen_ok, binOp, Sem.run_bind, he, Sem.run_pure]
theorem int_run {P : Program} {t : TypeId} {op : BinOp} {k : IntKind} {p q : Int} {r : Value} (h : intBin op k p q = some r) (x y : Operand) (w : World) :
    (do eqGuard op t x y (.int k p) (.int k q); binOp op t (.int k p) (.int k q) : Sem Value).run P w = .ok r w := by
  have hg : (eqGuard op t x y (.int k p) (.int k q)).run P w = .ok () w := by cases op <;> simp [eqGuard]
  rw [Sem.run_bind, hg]
  cases op <;> simp only [intBin, Option.some.injEq, reduceCtorEq] at h
  all_goals
    subst h
    simp [binOp, Op.intArith, Op.intCmp]
theorem str_run {P : Program} {t : TypeId} {op : BinOp} {p q : ByteArray} {r : Value} (h : strBin op p q = some r) (x y : Operand) (w : World) :
    (do eqGuard op t x y (.string p) (.string q); binOp op t (.string p) (.string q) : Sem Value).run P w = .ok r w := by
  have hg : (eqGuard op t x y (.string p) (.string q)).run P w = .ok () w := by cases op <;> simp [eqGuard]
  rw [Sem.run_bind, hg]
  cases op <;> simp only [strBin, Option.some.injEq, reduceCtorEq] at h
  all_goals
    subst h
    simp [binOp, Op.stringOp]
theorem binV_run {P : Program} {t : TypeId} {kd : Kd} {d : TypeDesc} (hd : P.underlying t = some d) (hk : DescOk P d kd) {op : BinOp} {a b r : Value} (h : binV kd op a b = some r) (x y : Operand) (w : World) :
    (do eqGuard op t x y a b; binOp op t a b : Sem Value).run P w = .ok r w := by
  unfold binV at h
  split at h
  · split at h
    · rename_i hkk
      subst hkk
      exact int_run h x y w
    · cases h
  · exact str_run h x y w
  · split at h
    · cases d <;> first | exact hk.elim | exact bool_run hd h x y w
    · cases h
  · cases h
theorem unV_run {P : Program} {op : UnOp} {a r : Value} (h : unV op a = some r) (w : World) : (Op.unary op a).run P w = .ok r w := by
  cases a <;> simp only [unV] at h <;> first | (cases h; done) | skip
  case bool b => cases op <;> first | (cases h; done) | skip
                 simp only [Option.some.injEq] at h; subst h; simp [Op.unary]
  case int k x => cases op <;> first | (cases h; done) | skip
                  simp only [Option.some.injEq] at h; subst h; simp [Op.unary, Op.intArith]
theorem info_size {P : Program} {t : TypeId} {y : Ty} (h : TyOk P t y) : (P.info? t).map (·.size) = some y.size := by
  obtain ⟨i, h1, h2, _⟩ := h.info
  rw [h1]
  simp [h2]
theorem range_of {r : Nat} {ty : TypeId} {cs : List Value} (h : w.heap[r]? = some (.cells cs.toArray ty (0, 0))) (o n : Nat) : w.rangeAt r o ((cs.drop o).take n) := fun j v hj => by
  rw [heap_cell h, List.getElem?_toArray]
  rw [List.getElem?_take] at hj
  split at hj
  · rwa [List.getElem?_drop] at hj
  · cases hj
theorem load_run {P : Program} {t : TypeId} {y : Ty} (h : TyOk P t y) {r o : Nat} {ty : TypeId} {cs : List Value} (hh : w.heap[r]? = some (.cells cs.toArray ty (0, 0))) (hl : o + y.size ≤ cs.length) :
    (Instr.loadAt t (.pointer (some ⟨r, o, none⟩))).run P w = .ok (pack ((cs.drop o).take y.size)) w := by
  have hlen : ((cs.drop o).take y.size).length = y.size := by rw [List.length_take, List.length_drop]; omega
  obtain ⟨d, hd, hk⟩ := h.desc
  have hr := h.row
  cases hb : y.kd.row with
  | true =>
    rw [hb] at hr
    have h1 : y.size ≠ 1 := by intro e; rw [e] at hr; cases hr
    have := run_loadVar_mid (P := P) w r o t _ d (range_of hh o y.size) hd (by rw [hk.isRow]; exact hb) (by rw [hlen]; exact info_size h)
    simp only [Instr.loadAt, Instr.sureAddr, Sem.run_bind, Sem.run_pure, Result.andThen_ok, this]
    rw [pack_agg (by omega)]
  | false =>
    rw [hb] at hr
    have h1 : y.size = 1 := by simpa using hr
    rw [h1] at hlen ⊢
    match hc : (cs.drop o).take 1, hlen with
    | [v], _ =>
      have hcell : w.cell? ⟨r, o, none⟩ = some v := by
        have := range_of hh o 1 0 v (by rw [hc]; rfl)
        simpa using this
      have hagg : (isAgg t).run P w = .ok false w := by
        have h2 := hk.isRow
        rw [hb] at h2
        unfold isAgg
        rw [Sem.run_bind, run_underlying hd w]
        cases d <;> simp_all
      simp only [Instr.loadAt, Instr.sureAddr, Sem.run_bind, Sem.run_pure, Result.andThen_ok, loadVar, hagg, Bool.false_eq_true, if_false, run_load, hcell, pack]
theorem there_mid {r : Nat} {ty : TypeId} {p old s : List Value} (h : w.heap[r]? = some (.cells (List.toArray (p ++ old ++ s)) ty (0, 0))) : w.there r p.length old.length :=
  there_of h (by simp)
theorem store_run {P : Program} {t : TypeId} {y : Ty} (h : TyOk P t y) {r : Nat} {ty : TypeId} {p old s vs : List Value} (hh : w.heap[r]? = some (.cells (List.toArray (p ++ old ++ s)) ty (0, 0))) (hl : old.length = y.size) (hv : vs.length = y.size) (hp : ∀ v ∈ vs, plainV v = true) :
    (Instr.storeAt t (.pointer (some ⟨r, p.length, none⟩)) (pack vs)).run P w = .ok () (w.setCells r p.length vs) := by
  have := run_storeAt_mid (P := P) w r p.length t vs.toArray (by have := there_mid hh; rw [hl, ← hv] at this; simpa using this) (by simpa [hv] using info_size h) (by simpa using fun v hv => plain_one (hp v hv))
  have e : Instr.storeAt t (.pointer (some ⟨r, p.length, none⟩)) (pack vs) = Instr.storeAt t (.pointer (some ⟨r, p.length, none⟩)) (.agg vs.toArray) := by
    simp only [Instr.storeAt, storeVar, pack_cells hp]
    rfl
  rw [e, this]
theorem zip_get : ∀ {os ns : List Nat} {f o n : Nat}, zipN os ns f = some (o, n) → os[f]? = some o ∧ ns[f]? = some n
  | o :: _, n :: _, 0, _, _, h => by simp only [zipN, Option.some.injEq, Prod.mk.injEq] at h; simp [h]
  | _ :: os, _ :: ns, f + 1, _, _, h => by simpa using zip_get (os := os) (ns := ns) h
  | [], _, _, _, _, h => by simp [zipN] at h
  | _ :: _, [], _, _, _, h => by simp [zipN] at h
theorem field_of {P : Program} {fs : Array Field} {offs szs : List Nat} (hk : DescOk P (.struct fs) (.str offs szs)) {f o n : Nat} (h : zipN offs szs f = some (o, n)) : ∃ fd, fs[f]? = some fd ∧ fd.offset = o ∧ rowAt P fd.type = some (n, !(n == 1)) ∧ n ≠ 0 := by
  obtain ⟨h1, h2, h3⟩ := hk
  obtain ⟨h4, h5⟩ := zip_get h
  subst h1
  rw [List.getElem?_map] at h4
  cases hf : fs.toList[f]? with
  | none => rw [hf] at h4; cases h4
  | some fd =>
    rw [hf] at h4
    simp only [Option.map_some, Option.some.injEq] at h4
    refine ⟨fd, by simpa using hf, h4, ?_, fun e => h3 (by rw [← e]; exact List.mem_of_getElem? h5)⟩
    have := congrArg (·[f]?) h2
    simpa [hf, h5] using this
theorem row_parts {P : Program} {t : TypeId} {n : Nat} {b : Bool} (h : rowAt P t = some (n, b)) : ∃ i d, P.info? t = some i ∧ P.underlying t = some d ∧ i.size = n ∧ d.isRow = b := by
  unfold rowAt at h
  split at h
  · rename_i i d hi hd
    simp only [Option.some.injEq, Prod.mk.injEq] at h
    exact ⟨i, d, hi, hd, h.1, h.2⟩
  · cases h
theorem size_run {P : Program} {t : TypeId} {i : TypeInfo} (h : P.info? t = some i) : (sizeOf t).run P w = .ok i.size w := by
  simp [sizeOf, typeInfo, h]
theorem agg_run {P : Program} {t : TypeId} {d : TypeDesc} (h : P.underlying t = some d) : (isAgg t).run P w = .ok d.isRow w := by
  unfold isAgg
  rw [Sem.run_bind, run_underlying h w]
  cases d <;> rfl
theorem part_run {P : Program} {t : TypeId} {n o : Nat} (h : rowAt P t = some (n, !(n == 1))) {cs : List Value} (hl : o + n ≤ cs.length) : (part t cs.toArray o).run P w = .ok (pack ((cs.drop o).take n)) w := by
  obtain ⟨i, d, hi, hd, h1, h2⟩ := row_parts h
  have hlen : ((cs.drop o).take n).length = n := by rw [List.length_take, List.length_drop]; omega
  unfold part
  rw [Sem.run_bind, agg_run hd, h2]
  by_cases hn : n = 1
  · subst hn
    match hc : (cs.drop o).take 1, hlen with
    | [v], _ =>
      have h3 : cs[o]? = some v := by
        have := congrArg (·[0]?) hc
        simp at this
        exact this
      simp [h3, pack]
  · have h3 : (!(n == 1)) = true := by simp [hn]
    rw [h3]
    simp only [Result.andThen_ok, if_true, Sem.run_bind, size_run hi, Sem.run_pure]
    rw [pack_agg (by omega), h1]
    congr 2
    apply Array.toList_inj.1
    simp
end
end Go.Proofs.YtafmfnpjhhaikaaGreatDoor
