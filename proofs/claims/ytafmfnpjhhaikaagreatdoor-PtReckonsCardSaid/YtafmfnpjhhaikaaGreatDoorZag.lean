/-
  The walk of nat.DivMod: the long division.
-/
import Derived.Test.YtafmfnpjhhaikaaGreatDoorZaf
import Derived.Outline
namespace Go.Proofs.YtafmfnpjhhaikaaGreatDoor
open Go.RowKit Go.Shelf
attribute [local go_sem] Oper.semAt_some
theorem guess_nv (nv : Nat) (h2 : 2 ≤ nv) (h9 : nv < 1000000000) (U V : List Nat) (hUa : AllB B64 U) (hVa : AllB B64 V) (hUl : U.length = nv + 1) (hVl : V.length = nv) (htop : 0 < limbL V (nv - 1)) :
    ∃ q : Nat, q < B64 ∧ (valB B64 U < valB B64 V * B64 → valB B64 U / valB B64 V ≤ q) ∧ ∀ (w : World) (pu pv : Option Addr) (cu cv : Nat), R64 w (.slice pu (nv + 1) cu) U → R64 w (.slice pv nv cv) V →
    Calls Tryz.prog 202 #[.slice pu (nv + 1) cu, .slice pv nv cv] w fun e w' => e = .returned (.int .u64 (q : Int)) ∧ ∃ k, w' = w.drewN k := by
  obtain ⟨m, rfl⟩ : ∃ m, nv = m + 2 := ⟨nv - 2, by omega⟩
  obtain ⟨q, hq⟩ : ∃ q, gqL (limbL U (m + 2)) (limbL U (m + 1)) (limbL U m) (limbL V (m + 1)) (limbL V m) = q := ⟨_, rfl⟩
  have hs := gqL_spec hUa hVa hUl hVl htop hq
  refine ⟨q, hs.1, hs.2, fun w pu pv cu cv hU hV => ?_⟩
  rw [← hq]
  exact guess_any pu pv cu cv m U V w hU hV hUl hVl (by omega) htop
/-- A round of the long division keeps this. -/
def DmRd (wz : World) (X4 X10 X11 GQ NQ nv cv N c G : Nat) (pv : Option Addr) (U0 V : Nat) (pre : List Nat) (W : World) : Prop := ∃ Q L : List Nat, Q.length = NQ ∧ L.length = N ∧ DmAt U0 V NQ Q L pre ∧
  O64 W wz.heap.size (.slice (some ⟨GQ, 0, none⟩) NQ NQ) Q ∧ O64 W wz.heap.size (.slice (some ⟨G, 0, none⟩) N c) L ∧ W.heap[X4]? = some (.cells #[.slice (some ⟨GQ, 0, none⟩) NQ NQ] 22 (0, 0)) ∧
  W.heap[X10]? = some (.cells #[.slice pv nv cv] 22 (0, 0)) ∧ W.heap[X11]? = some (.cells #[.slice (some ⟨G, 0, none⟩) N c] 22 (0, 0))
theorem Bel.both {a b : World} (h : Bel a b) (p : Addr) (v : Value) : Bel (a.setCell p v) (b.setCell p v) := by
  refine ⟨h.os, h.tape, h.output, by simpa [World.setCell] using Below.size h, fun k hk => ?_⟩
  have h2 := Below.block h k (by simpa [World.setCell] using hk)
  simp [World.setCell, Array.getElem?_modify, h2]
theorem shifted_len {b nv y s : Nat} {t : List Nat} (hb : valB B64 t = b) (ht : trimL t = t) (ha : AllB B64 t) (hl : t.length = nv + 1) (hy : limbL t nv = y) (hs : s ≤ 64) (hy2 : y * 2 ^ s < B64) :
    (limB B64 (b * 2 ^ s)).length = nv + 1 := by
  have h1 := val_ge (B := B64) ht hl
  rw [hb] at h1
  have hp : 0 < 2 ^ s := Nat.pow_pos (by omega)
  have h2 : b < (y + 1) * B64 ^ nv := by
    have h3 := val_take B64 t nv
    rw [List.take_of_length_le (by omega), hb, hy] at h3
    have h4 := val_lt (B := B64) (l := t.take nv) (fun x hx => ha x (List.mem_of_mem_take hx))
    rw [List.length_take, Nat.min_eq_left (by omega)] at h4
    rw [h3, Nat.add_mul, Nat.one_mul, Nat.mul_comm y]
    omega
  have h5 : (y + 1) * 2 ^ s ≤ B64 := by
    have h6 : B64 = 2 ^ (64 - s) * 2 ^ s := (b64_split hs).symm
    have h7 : y < 2 ^ (64 - s) := by
      rw [h6] at hy2
      exact Nat.lt_of_mul_lt_mul_right hy2
    rw [h6]
    exact Nat.mul_le_mul_right _ h7
  have h8 : b * 2 ^ s < B64 ^ (nv + 1) := by
    have e1 : b * 2 ^ s < (y + 1) * B64 ^ nv * 2 ^ s := Nat.mul_lt_mul_of_pos_right h2 hp
    have e2 : (y + 1) * B64 ^ nv * 2 ^ s = (y + 1) * 2 ^ s * B64 ^ nv := by grind
    have e3 : (y + 1) * 2 ^ s * B64 ^ nv ≤ B64 * B64 ^ nv := Nat.mul_le_mul_right _ h5
    rw [Nat.pow_succ, Nat.mul_comm (B64 ^ nv)]
    omega
  have h9 := lim_len b64_two h8
  have h10 : B64 ^ nv ≤ b * 2 ^ s := by
    have : b * 1 ≤ b * 2 ^ s := Nat.mul_le_mul_left _ hp
    omega
  have h11 : ¬ (limB B64 (b * 2 ^ s)).length ≤ nv := fun h => by
    have := lim_lt b64_two h
    omega
  omega
theorem grown_heap {W W' : World} {k : IntKind} {B t base : Nat} {v : Value} {l : List Nat} (ho : LOwn k B t W base v l) (hg : W.grownBy W' v.ownBlock) {X t' : Nat} {cs : Array Value} {fr : Nat × Nat} (hX : W.heap[X]? = some (.cells cs t' fr)) (ht : t' ≠ t) : W'.heap[X]? = some (.cells cs t' fr) := by
  refine (hg.block X (heap_lt hX) ?_).trans hX
  rcases ho.1.2 with ⟨rfl, _⟩ | ⟨g, cap, cur, rfl, _, hh, _⟩
  · simp [Value.ownBlock]
  · intro h
    simp only [Value.ownBlock, Option.some.injEq] at h
    subst h
    rw [hh] at hX
    simp only [Option.some.injEq, Obj.cells.injEq] at hX
    exact ht hX.2.1.symm
theorem LOwn.set_kind {k : IntKind} {B t base : Nat} {w : World} {v : Value} {l : List Nat} (h : LOwn k B t w base v l) {X t' : Nat} {cs : Array Value} {fr : Nat × Nat} (hX : w.heap[X]? = some (.cells cs t' fr)) (ht : t' ≠ t) (j : Nat) (u : Value) : LOwn k B t (w.setCell ⟨X, j, none⟩ u) base v l := by
  obtain ⟨⟨h1, h2⟩, h3⟩ := h
  refine ⟨⟨h1, ?_⟩, h3⟩
  rcases h2 with h2 | ⟨g, cap, cur, he, hb, hg, rest⟩
  · exact .inl h2
  · refine .inr ⟨g, cap, cur, he, hb, heap_other hg (fun e => ?_) u, rest⟩
    simp only at e
    subst e
    rw [hg] at hX
    simp only [Option.some.injEq, Obj.cells.injEq] at hX
    exact ht hX.2.1.symm
theorem wpList_limb64g {W : World} {base : Nat} {ops : Array Oper} {rest : List Oper} {o : Oper} {a : Act} {Q : Exit → Act → World → Prop} (hgd : o.guard = none) (s x : Operand)
    (ho : o.op = .call { callee := .builtin .append, args := #[s, x], argTypes := #[22, 22] }) (v : Value) (l : List Nat) (hs : a.eval s = v) (hown : O64 W base v l) (hbase : base ≤ W.heap.size)
    (g : Nat) (hx : a.eval x = .slice (some ⟨g, 0, none⟩) 1 1) (hg : g = W.heap.size) (y : Nat) (hy : y < B64) (hl : l.length < 1000000000000)
    (h : ∀ g' c w', O64 w' base (.slice (some ⟨g', 0, none⟩) (l.length + 1) c) (l ++ [y]) → W.grownBy w' v.ownBlock → wpList Tryz.prog ops Q rest (a.put o.dst (.slice (some ⟨g', 0, none⟩) (l.length + 1) c)) w') :
    wpList Tryz.prog ops Q (o :: rest) a (W.alloc (.cells #[.int .u64 (y : Int)] 105)) := by
  refine wpList_push hgd s x 22 ho base 105 _ 1 8 Tryz.underlying22 infoU64 rfl (by decide) v l.length _ hs hown.1 #[.int .u64 (y : Int)] (0, 0) g hx hg rfl (by simp [Value.oneCell']) (by unfold maxLen; omega) (by omega) hbase ?_
  intro v' w' ho' hg' hne
  rcases ho'.2 with ⟨rfl, _⟩ | ⟨g', cap, cur, rfl, hbb, rest'⟩
  · exact absurd rfl hne
  · exact h g' cap w' ⟨by rw [List.length_append, List.length_singleton, List.map_append]; exact ho', all_snoc hown.2 hy⟩ hg'
/-- The dividend, so far as it has been made longer. -/
def DmPad (wv : World) (X N U0 gf : Nat) (wx : World) : Prop := ∃ (L : List Nat) (p : Option Addr) (c : Nat), wx.heap[X]? = some (.cells #[.slice p L.length c] 22 (0, 0)) ∧ O64 wx wv.heap.size (.slice p L.length c) L ∧ valB B64 L = U0 ∧ L.length ≤ N ∧ N ≤ L.length + gf ∧ Bel wv wx
theorem val_snoc_zero (l : List Nat) : valB B64 (l ++ [0]) = valB B64 l := by rw [val_snoc]; simp
/-- What a round must keep of the world. -/
def Kept (B S GQ NQ : Nat) (W W' : World) : Prop := KeepsFrom B W W' ∧ KpB .u64 S GQ 0 NQ W W'
theorem Kept.trans {B S GQ NQ : Nat} {X Y Z : World} (h : Kept B S GQ NQ X Y) (k : Kept B S GQ NQ Y Z) : Kept B S GQ NQ X Z := ⟨h.1.trans k.1, h.2.trans k.2⟩
theorem Kept.drewN (B S GQ NQ : Nat) (W : World) (n : Nat) : Kept B S GQ NQ W (W.drewN n) := ⟨(keeps_drewN W n).from _, ⟨rfl, fun _ _ h => h⟩⟩
theorem Kept.set {B S GQ NQ : Nat} (hS : GQ ≠ S) (W : World) (i : Nat) (v : Int) : Kept B S GQ NQ W (W.setCell ⟨GQ, i, none⟩ (.int .u64 v)) := by
  refine ⟨(KeepsOthers.setCell _ _ _).from _, World.cell?_setCell_far _ _ _ _ (by simpa using hS), fun j _ h => ?_⟩
  by_cases hj : i = 0 + j
  · subst hj
    obtain ⟨x, hx⟩ := h
    exact ⟨v, World.cell?_setCell_same' _ _ _ (by rw [hx]; rfl)⟩
  · obtain ⟨x, hx⟩ := h
    exact ⟨x, (World.cell?_setCell_other W ⟨GQ, i, none⟩ ⟨GQ, 0 + j, none⟩ (.int .u64 v) (by simp)).trans hx⟩
theorem Kept.only {B S GQ NQ G : Nat} (hS : G ≠ S) (hQ : G ≠ GQ) (hB : G < B) {W W' : World} (h : OnlyG G W W') : Kept B S GQ NQ W W' := by
  refine ⟨⟨Nat.le_of_eq h.1.symm, fun k o hk ho _ => (h.2 k (by omega)).trans ho⟩, ?_, fun j _ hj => ?_⟩
  · exact World.cell?_of_block (h.2 S (Ne.symm hS))
  · obtain ⟨x, hx⟩ := hj
    exact ⟨x, (World.cell?_of_block (a := ⟨GQ, 0 + j, none⟩) (h.2 GQ (Ne.symm hQ))).trans hx⟩
theorem row_part {W : World} {G N c i d d' : Nat} {L : List Nat} (h : R64 W (.slice (some ⟨G, 0, none⟩) N c) L) (hL : L.length = N) (hd : i + d ≤ N) (hdd : d ≤ d') : R64 W (.slice (some ⟨G, i, none⟩) d d') ((L.drop i).take d) := by
  refine ⟨some ⟨G, i, none⟩, d', by rw [List.length_take, List.length_drop, Nat.min_eq_left (by omega)], by rw [List.length_take]; omega, fun x hx => h.all x (List.mem_of_mem_drop (List.mem_of_mem_take hx)), fun _ => ⟨G, i, rfl, fun j x hj => ?_⟩⟩
  rw [List.getElem?_take] at hj
  split at hj
  · rw [List.getElem?_drop] at hj
    obtain ⟨b, o, c', he, _, hq, _⟩ := h.at hj
    simp only [Value.slice.injEq, Option.some.injEq, Addr.mk.injEq, and_true] at he
    obtain ⟨⟨rfl, rfl⟩, _, _⟩ := he
    rw [Nat.zero_add] at hq
    exact hq
  · cases hj
theorem over_pos {L L2 : List Nat} {F E V qd : Nat} (ha : AllB B64 L2) (hF : F ≤ L.length) (hF2 : F ≤ L2.length) (hd : L2.drop F = L.drop F) (h : valB B64 L2 + E * (qd * V) = valB B64 L + B64 ^ F) : 0 < qd := by
  rcases Nat.eq_zero_or_pos qd with rfl | h0
  · have h1 := val_drop B64 L F hF
    have h2 := val_drop B64 L2 F hF2
    rw [hd] at h2
    have h3 := val_lt (B := B64) (l := L2.take F) (fun x hx => ha x (List.mem_of_mem_take hx))
    rw [List.length_take, Nat.min_eq_left hF2] at h3
    rw [Nat.zero_mul, Nat.mul_zero] at h
    omega
  · exact h0
theorem over_less {L L2 : List Nat} {i nv V qd : Nat} (ha : AllB B64 L2) (hV : 0 < V) (hVn : V < B64 ^ nv) (hF : i + nv + 1 ≤ L.length) (hF2 : i + nv + 1 ≤ L2.length) (hd : L2.drop (i + nv + 1) = L.drop (i + nv + 1)) (h : valB B64 L2 + B64 ^ i * (qd * V) = valB B64 L + B64 ^ (i + nv + 1))
    (hP : valB B64 L < V * (B64 * B64 ^ i)) : valB B64 L / (V * B64 ^ i) < qd := by
  have hp : 0 < B64 ^ i := Nat.pow_pos b64_pos
  have h1 : valB B64 L < B64 ^ (i + nv + 1) := by
    have e : B64 ^ (i + nv + 1) = B64 ^ nv * (B64 * B64 ^ i) := by rw [Nat.pow_succ, Nat.pow_add]; grind
    have := Nat.mul_lt_mul_of_pos_right hVn (Nat.mul_pos b64_pos hp)
    omega
  exact digit_over hp hV (low_lt ha (by rw [hd]; exact top_zero h1 hF) hF2) h
theorem fix_eq0 {x a F d : Nat} (hd : d ≤ 1) (h : x = a + F * d) : x = a + (if ((d : Int) != 0) = true then F else 0) := by
  have : d = 0 ∨ d = 1 := by omega
  rcases this with rfl | rfl
  · rw [Nat.mul_zero] at h
    exact h
  · rw [Nat.mul_one] at h
    exact h
theorem fix_eq {L L1 : List Nat} {i nv q V d : Nat} (hd : d ≤ 1) (h : valB B64 L1 + B64 ^ i * (q * V) = valB B64 L + B64 ^ (i + nv + 1) * d) : valB B64 L1 + B64 ^ i * (q * V) = valB B64 L + (if ((d : Int) != 0) = true then B64 ^ (i + nv + 1) else 0) := fix_eq0 hd h
theorem fix_guess {L LV : List Nat} {i nv q V : Nat} (ha : AllB B64 L) (hVa : AllB B64 LV) (hVv : valB B64 LV = V) (hVl : LV.length = nv) (hV : 0 < V) (hF : i + (nv + 1) ≤ L.length)
    (hq : valB B64 ((L.drop i).take (nv + 1)) < valB B64 LV * B64 → valB B64 ((L.drop i).take (nv + 1)) / valB B64 LV ≤ q) (hU : valB B64 L < V * (B64 * B64 ^ i)) : valB B64 L / (V * B64 ^ i) ≤ q := by
  have hVn := val_lt hVa
  rw [hVv, hVl] at hVn
  have hp : 0 < B64 ^ i := Nat.pow_pos b64_pos
  have hlow : valB B64 L < B64 ^ (i + (nv + 1)) := by
    have e : B64 ^ (i + (nv + 1)) = B64 ^ nv * (B64 * B64 ^ i) := by rw [Nat.pow_add, Nat.pow_succ, Nat.mul_comm (B64 ^ i), Nat.mul_assoc]
    rw [e]
    exact Nat.lt_trans hU (Nat.mul_lt_mul_of_pos_right hVn (Nat.mul_pos b64_pos hp))
  have hpv := part_val ha hlow hF
  rw [hVv] at hq
  exact dm_guess hV hU hpv hq
theorem fix_done {U0 V NQ i qd : Nat} {Q L L2 : List Nat} {pre : List Nat} (hV : 0 < V) (hQ : Q.length = NQ) (h : DmAt U0 V NQ Q L pre) (he : valB B64 L2 + B64 ^ i * (qd * V) = valB B64 L) (hq : valB B64 L < V * (B64 * B64 ^ i) → valB B64 L / (V * B64 ^ i) ≤ qd) :
    DmAt U0 V NQ (Q.set i qd) L2 (pre ++ [i]) := by
  intro k hk hp
  obtain ⟨m, rfl, hp1, hi⟩ := dmAt_last hk hp
  have h1 := h m (by omega) hp1
  have hU := h1.2
  rw [show NQ - m = i + 1 by omega, Nat.pow_succ, Nat.mul_comm (B64 ^ i)] at hU
  obtain ⟨g1, g2⟩ := digit_ok (Nat.pow_pos b64_pos) hV (hq hU) he
  exact (dm_next hV (by omega) hi hQ h1 g1 rfl g2).1
theorem back_eq2 {A2 A3 A E V F q d : Nat} (hq : 0 < q) (h : A2 + E * (q * V) = A + F) (hb : A3 + F * d = A2 + E * V) (hd : d ≤ 1) : A3 + E * ((q - 1) * V) = A + (if (!((d : Int) == 1)) = true then F else 0) := by
  obtain ⟨p, rfl⟩ : ∃ p, q = p + 1 := ⟨q - 1, by omega⟩
  have e : E * ((p + 1) * V) = E * (p * V) + E * V := by grind
  rw [e] at h
  rw [Nat.add_sub_cancel]
  have : d = 0 ∨ d = 1 := by omega
  rcases this with rfl | rfl
  · simp at hb ⊢
    omega
  · simp at hb ⊢
    omega
/-- The rounds that put back. -/
def DmFix (B S : Nat) (wz W0 : World) (X4 X10 X11 GQ NQ nv cv N c G i : Nat) (pv : Option Addr) (V : Nat) (Q L : List Nat) (gf : Nat) (s : Value) (W : World) : Prop := ∃ (o : Bool) (qd : Nat) (L2 : List Nat), s = .bool o ∧ L2.length = N ∧ L2.drop (i + nv + 1) = L.drop (i + nv + 1) ∧
  O64 W wz.heap.size (.slice (some ⟨GQ, 0, none⟩) NQ NQ) (Q.set i qd) ∧ O64 W wz.heap.size (.slice (some ⟨G, 0, none⟩) N c) L2 ∧ W.heap[X4]? = some (.cells #[.slice (some ⟨GQ, 0, none⟩) NQ NQ] 22 (0, 0)) ∧
  W.heap[X10]? = some (.cells #[.slice pv nv cv] 22 (0, 0)) ∧ W.heap[X11]? = some (.cells #[.slice (some ⟨G, 0, none⟩) N c] 22 (0, 0)) ∧ Bel wz W ∧ Kept B S GQ NQ W0 W ∧
  valB B64 L2 + B64 ^ i * (qd * V) = valB B64 L + (if o = true then B64 ^ (i + nv + 1) else 0) ∧ qd < B64 ∧ qd ≤ gf ∧ (valB B64 L < V * (B64 * B64 ^ i) → valB B64 L / (V * B64 ^ i) ≤ qd)
set_option maxHeartbeats 4000000 in
set_option maxRecDepth 100000 in
theorem divMod_big (p1 p2 : Option Addr) (c1 c2 n nv : Nat) (l1 l2 : List Nat) (w : World) (h1 : R64 w (.slice p1 l1.length c1) l1) (h2 : R64 w (.slice p2 l2.length c2) l2) (hl1 : l1.length < 500000000) (hl2 : l2.length < 500000000)
    (hge : valB B64 l2 ≤ valB B64 l1) (hn : (trimL l1).length = n) (hnv : (trimL l2).length = nv) (h2v : 2 ≤ nv) :
    Calls Tryz.prog 174 #[.slice p1 l1.length c1, .slice p2 l2.length c2] w fun e w' => ∃ q cq r cr, e = .returned (.tuple #[.slice q (limB B64 (valB B64 l1 / valB B64 l2)).length cq, .slice r (limB B64 (valB B64 l1 % valB B64 l2)).length cr, .int .i64 0]) ∧
      O64 w' w.heap.size (.slice q (limB B64 (valB B64 l1 / valB B64 l2)).length cq) (limB B64 (valB B64 l1 / valB B64 l2)) ∧ O64 w' w.heap.size (.slice r (limB B64 (valB B64 l1 % valB B64 l2)).length cr) (limB B64 (valB B64 l1 % valB B64 l2)) ∧ Bel w w' := by
  have hv1 := val_trim B64 l1
  have hv2 := val_trim B64 l2
  have hr1 := row_trim h1
  have hr2 := row_trim h2
  have hle1 := trim_len l1
  have hle2 := trim_len l2
  have HT1 : Hid (∀ X, Bel w X → _) := fun X hX => trim_any p1 c1 l1 X (h1.bel hX) (by omega)
  have HT2 : Hid (∀ X, Bel w X → _) := fun X hX => trim_any p2 c2 l2 X (h2.bel hX) (by omega)
  have HC : Hid (∀ X, Bel w X → _) := fun X hX => natCmp_any p1 p2 c1 c2 (trimL l1) (trimL l2) X (hr1.bel hX) (hr2.bel hX) (by omega) (by omega)
  rw [val_trim, val_trim] at HC
  have htt1 := trim_trim l1
  have htt2 := trim_trim l2
  obtain ⟨n1, hn1⟩ : ∃ n, l1.length = n := ⟨_, rfl⟩
  obtain ⟨m1, hm1⟩ : ∃ m, l2.length = m := ⟨_, rfl⟩
  obtain ⟨t1, ht1⟩ : ∃ t, trimL l1 = t := ⟨_, rfl⟩
  obtain ⟨t2, ht2⟩ : ∃ t, trimL l2 = t := ⟨_, rfl⟩
  obtain ⟨V1, hV1⟩ : ∃ v, valB B64 l1 = v := ⟨_, rfl⟩
  obtain ⟨V2, hV2⟩ : ∃ v, valB B64 l2 = v := ⟨_, rfl⟩
  rw [ht1] at htt1 hv1 hn
  rw [ht2] at htt2 hv2 hnv
  rw [ht1, hn] at hr1 hle1
  rw [ht2, hnv] at hr2 hle2
  rw [hV1] at hv1
  rw [hV2] at hv2
  rw [hV1, hV2] at hge ⊢
  rw [hn1, ht1, hn] at HT1
  rw [hm1, ht2, hnv] at HT2
  rw [ht1, ht2, hV1, hV2, hn, hnv] at HC
  rw [hn1, hm1]
  obtain ⟨C, hC⟩ : ∃ C, cmpN V1 V2 = C := ⟨_, rfl⟩
  have hC0 : decide (C < 0) = false := by have := cmpN_ge hge; rw [hC] at this; exact decide_eq_false (by omega)
  rw [hC] at HC
  -- the highest limb of the divisor
  obtain ⟨y, hy⟩ : ∃ y, limbL t2 (nv - 1) = y := ⟨_, rfl⟩
  have hyat := limb_some (show nv - 1 < t2.length by omega)
  rw [hy] at hyat
  obtain ⟨b2, o2, c2', he2, _, qy, hyB⟩ := hr2.at hyat
  simp only [Value.slice.injEq] at he2
  obtain ⟨rfl, he3, rfl⟩ := he2
  clear he3
  have hy0 : y ≠ 0 := trim_last (k := nv - 1) htt2 (by omega) hyat
  obtain ⟨s, hs64, _, hys, HLZ⟩ := lz_any y (by omega) hyB
  have HLZ := Lib.hid HLZ
  have hVl := shifted_len (nv := nv - 1) hv2 htt2 hr2.all (by omega) hy (by omega) hys
  rw [show nv - 1 + 1 = nv by omega] at hVl
  have HS1 : Hid (∀ X, Bel w X → _) := fun X hX => shl_any p1 c1 s t1 X ((show R64 X (.slice p1 t1.length c1) t1 from hn ▸ hr1.bel hX)) (by omega) (by omega)
  have HS2 : Hid (∀ X, Bel w X → _) := fun X hX => shl_any (some ⟨b2, o2, none⟩) c2 s t2 X ((show R64 X (.slice (some ⟨b2, o2, none⟩) t2.length c2) t2 from hnv ▸ hr2.bel hX)) (by omega) (by omega)
  rw [hv1, hn] at HS1
  rw [hv2, hnv, hVl] at HS2
  obtain ⟨LU, hLU⟩ : ∃ L, limB B64 (V1 * 2 ^ s) = L := ⟨_, rfl⟩
  obtain ⟨LV, hLV⟩ : ∃ L, limB B64 (V2 * 2 ^ s) = L := ⟨_, rfl⟩
  rw [hLV] at HS2 hVl
  rw [hLU] at HS1
  have e1 : ((nv : Int) == 0) = false := beq_false_of_ne (by omega)
  have e2 : ((nv : Int) == 1) = false := beq_false_of_ne (by omega)
  have e3 : (nv : Int) - 1 = ((nv - 1 : Nat) : Int) := by omega
  have HB : Hid (∀ o, Bel w (w.alloc o)) := fun o => (Bel.refl w).alloc o
  have HQY := Lib.hid qy
  have F1 : Hid (V2 ≤ V1 ∧ valB B64 t1 = V1 ∧ valB B64 t2 = V2 ∧ trimL t1 = t1 ∧ trimL t2 = t2 ∧ t1.length = n ∧ t2.length = nv ∧ AllB B64 t1 ∧ AllB B64 t2) := ⟨hge, hv1, hv2, htt1, htt2, hn, hnv, hr1.all, hr2.all⟩
  have F2 : Hid (limB B64 (V1 * 2 ^ s) = LU ∧ limB B64 (V2 * 2 ^ s) = LV ∧ LV.length = nv) := ⟨hLU, hLV, hVl⟩
  have hn9 : n < 500000000 := by omega
  have hnv9 : nv < 1000000000 := by omega
  clear h1 h2 hge hn hnv hv1 hv2 htt1 htt2 hn1 hm1 ht1 ht2 hV1 hV2 hr1 hr2 hle1 hle2 hy hyat qy hLU hLV hVl hys hC hy0 hl1 hl2
  refine (callsIn_wide (n := 6)).1 ?_
  refine callsIn_of_wp_marks Tryz.func174 rfl trivial ?_ rfl
  simp only [Tryz.ntmps174, List.size_toArray, List.length_cons, List.length_nil, Nat.reduceAdd, Nat.reduceSub, Array.replicate_succ, Array.replicate_zero, List.push_toArray, List.append_toArray, List.nil_append, List.cons_append]
  rw [wpIn_wide]
  go_upto_block 1 with (first
    | (go_at_call 157; first | ((with_reducible refine (HT1.out _ (HB.out _)).mono ?_); rintro e w3 ⟨rfl, hw3⟩; obtain rfl := hw3.symm; clear hw3) | ((with_reducible refine (HT2.out _ (HB.out _)).mono ?_); rintro e w3 ⟨rfl, hw3⟩; obtain rfl := hw3.symm; clear hw3))
    | (go_at_call 115; (with_reducible refine (HC.out _ (HB.out _)).mono ?_); rintro e w4 ⟨rfl, hb4⟩; have HB4 := Lib.hid ((HB.out _).trans hb4); have HH4 := Lib.hid (bel_new hb4); have qb4 := HB4.out.cell HQY.out; clear hb4)
    | (go_at_call 200; (with_reducible refine (HLZ.out _).mono ?_); rintro e w5 ⟨rfl, hw5⟩; obtain rfl := hw5.symm; clear hw5)
    | (go_at_call 201; first
        | ((with_reducible refine (HS2.out _ HB4.out).mono ?_); rintro e w6 ⟨pv, cv, rfl, ho6, hb6⟩; have HO6 := Lib.hid ho6; have HB6 := Lib.hid hb6; have HBX := Lib.hid ((HB4.out.trans hb6).alloc (.cells #[.slice pv nv cv] 22)); clear ho6 hb6)
        | ((with_reducible refine (HS1.out _ HBX.out).mono ?_); rintro e w7 ⟨pu, cu, rfl, ho7, hb7⟩; have HO7 := Lib.hid ho7; have HB7 := Lib.hid hb7; clear ho7 hb7)))
  obtain ⟨X4, hX4⟩ : ∃ X, w.heap.size = X := ⟨_, rfl⟩
  obtain ⟨X10, hX10⟩ : ∃ X, w6.heap.size = X := ⟨_, rfl⟩
  obtain ⟨X11, hX11⟩ : ∃ X, w7.heap.size = X := ⟨_, rfl⟩
  rw [hX4, hX10, hX11]
  rw [hX4] at HH4
  have h67 := HB6.out.size
  have h46 := heap_lt HH4.out
  have HV0 : Hid (O64 (w6.alloc (.cells #[.slice pv nv cv] 22)) w4.heap.size (.slice pv nv cv) LV) := HO6.out.bel ((Bel.refl _).alloc _)
  have HV10 : Hid ((w6.alloc (.cells #[.slice pv nv cv] 22)).heap[X10]? = some (.cells #[.slice pv nv cv] 22 (0, 0))) := alloc_heap hX10
  have HV4 : Hid ((w6.alloc (.cells #[.slice pv nv cv] 22)).heap[X4]? = some (.cells #[.slice none 0 0] 22 (0, 0))) := heap_push_of (HB6.out.heap HH4.out) _
  have hX6 : X4 < X10 := by omega
  obtain ⟨wv, hwv⟩ : ∃ W, w6.alloc (.cells #[.slice pv nv cv] 22) = W := ⟨_, rfl⟩
  rw [hwv] at HO7 HB7 HBX HV0 HV10 HV4
  have hXv : X10 < wv.heap.size := heap_lt HV10.out
  have hXw : wv.heap.size ≤ X11 := by rw [← hX11]; exact HB7.out.size
  have HP0 : Hid (DmPad wv X11 (n + 1) (V1 * 2 ^ s) (n + 1) (w7.alloc (.cells #[.slice pu LU.length cu] 22))) := by
    obtain ⟨f1, f2, f3⟩ := F2.out
    refine ⟨LU, pu, cu, alloc_heap hX11, HO7.out.bel ((Bel.refl _).alloc _), by rw [← f1, val_lim b64_two], ?_, by omega, HB7.out.alloc _⟩
    rw [← f1]
    refine lim_len b64_two ?_
    obtain ⟨g1, g2, g3, g4, g5, g6, g7, g8, g9⟩ := F1.out
    have h1 := val_lt g8
    rw [g2, g6] at h1
    rw [Nat.pow_succ]
    have h2 : 2 ^ s ≤ B64 := by
      have : (2 : Nat) ^ s ≤ 2 ^ 64 := Nat.pow_le_pow_right (by omega) (by omega)
      have e : (2 : Nat) ^ 64 = B64 := by decide
      omega
    exact Nat.lt_of_lt_of_le (Nat.mul_lt_mul_of_pos_right h1 (Nat.pow_pos (by omega))) (Nat.mul_le_mul_left _ h2)
  obtain ⟨w8, hw8⟩ : ∃ W, w7.alloc (.cells #[.slice pu LU.length cu] 22) = W := ⟨_, rfl⟩
  rw [hw8] at HP0
  rw [hw8]
  obtain ⟨U0, hU0⟩ : ∃ U, V1 * 2 ^ s = U := ⟨_, rfl⟩
  have HU0 := Lib.hid hU0
  rw [hU0] at HP0
  have HX4 := Lib.hid hX4
  clear hU0 hw8 hwv hX10 hX11 HT1 HT2 HC HLZ HS1 HS2 HH4 hC0 e1 e2 e3 HB HQY HB4 HO6 HB6 HO7 HB7 qb4 h67 h46 hX4
  go_wp2
  go_loopg [] (n + 1) (fun gf wx => DmPad wv X11 (n + 1) U0 gf wx)
  case atStart => exact HP0.out
  case round =>
    obtain ⟨L, p, c, a1, a2, a3, a4, a5, a6⟩ := hrel
    have A1 := Lib.hid a1
    have A2 := Lib.hid a2
    have A3 := Lib.hid a3
    have A6 := Lib.hid a6
    have q1 : wr.cell? ⟨X11, 0, none⟩ = some (.slice p L.length c) := (heap_cell a1 0).trans rfl
    have q2 : wr.frozen? ⟨X11, 0, none⟩ = false := heap_frozen a1 0
    have hs9 := a6.size
    clear a1 a2 a3 a6
    by_cases hle : L.length ≤ n
    · obtain ⟨gk', rfl⟩ : ∃ g, gk = g + 1 := ⟨gk - 1, by omega⟩
      go_wp2_with (at_builtin; (refine wpList_limb64g (W := wr) (base := wv.heap.size) rfl (.tmp 63) (.tmp 64) rfl (.slice p L.length c) L rfl A2.out hs9 _ rfl rfl 0 b64_pos (by omega) ?_); intro g3 c3 w3 ho3 hg3; have HO3 := Lib.hid ho3; have HG3 := Lib.hid hg3; have hh3 := grown_heap A2.out hg3 A1.out (by decide); have HH3 := Lib.hid hh3; have q3 : w3.cell? ⟨X11, 0, none⟩ = some (.slice p L.length c) := (heap_cell hh3 0).trans rfl; have q4 : w3.frozen? ⟨X11, 0, none⟩ = false := heap_frozen hh3 0; clear ho3 hg3 hh3)
      go_roundg gk'
      case measure => omega
      case rel =>
        have hlen : (L ++ [0]).length = L.length + 1 := by simp
        refine ⟨L ++ [0], some ⟨g3, 0, none⟩, c3, ?_, ?_, by rw [val_snoc_zero]; exact A3.out, by omega, by omega, ?_⟩
        · rw [hlen]; exact heap_put HH3.out _
        · rw [hlen]; exact HO3.out.set_kind HH3.out (by decide) 0 _
        · exact (But.bel A6.out HG3.out (fun k hk => (A2.out.1.lt k hk).1)).set (p := ⟨X11, 0, none⟩) hXw _
    · obtain ⟨N1, hN1⟩ : ∃ N, L.length = N := ⟨_, rfl⟩
      have hN : N1 = n + 1 := by omega
      rw [hN1] at q1 A1 A2 hle a4 a5
      have HL1 := Lib.hid hN1
      clear hN1
      obtain ⟨NQ, hNQ⟩ : ∃ k, k + nv = n + 1 := ⟨n + 1 - nv, by
        obtain ⟨g1, g2, g3, g4, g5, g6, g7, g8, g9⟩ := F1.out
        by_cases h : n < nv
        · have := cmp_len b64_two g8 g5 (by omega : t1.length < t2.length)
          omega
        · omega⟩
      have e4 : (N1 : Int) - (nv : Int) = (NQ : Int) := by omega
      have hmk := fun wx => run_made NQ (by omega) wx
      obtain ⟨Z0, hZ0⟩ : ∃ Z, madeCells #[.int .u64 0] (NQ * 1) = Z := ⟨_, rfl⟩
      have HO0 := Lib.hid (fun wx => made_own wx NQ (by unfold maxLen; omega))
      rw [hZ0] at hmk HO0
      have HBK := Lib.hid (fun p wx => backward_any p NQ NQ wx)
      have q5 : wr.cell? ⟨X10, 0, none⟩ = some (.slice pv nv cv) := (heap_cell (A6.out.heap HV10.out) 0).trans rfl
      have q6 : wr.cell? ⟨X4, 0, none⟩ = some (.slice none 0 0) := (heap_cell (A6.out.heap HV4.out) 0).trans rfl
      have q7 : wr.frozen? ⟨X4, 0, none⟩ = false := heap_frozen (A6.out.heap HV4.out) 0
      have hX4r : X4 < wr.heap.size := heap_lt (A6.out.heap HV4.out)
      have hNQ1 : NQ + nv ≤ n + 1 ∧ n + 1 ≤ NQ + nv ∧ n + 1 ≤ N1 := by omega
      obtain ⟨k1, k2, k3⟩ := hNQ1
      clear hZ0 hNQ hN hle
      go_upto_block 3 with (first
        | (go_at_call 159; (with_reducible refine (HBK.out _ _).mono ?_); rintro e w9 ⟨rfl, hw9⟩; obtain rfl := hw9.symm; clear hw9))
      obtain ⟨G, hpG⟩ : ∃ g, p = some ⟨g, 0, none⟩ := by
        rcases A2.out.1.2 with ⟨h1, h2⟩ | ⟨g, cap, cur, h1, _⟩
        · have := HL1.out; omega
        · simp only [Value.slice.injEq] at h1
          exact ⟨g, h1.1⟩
      subst hpG
      obtain ⟨GQ, hGQ⟩ : ∃ g, wr.heap.size = g := ⟨_, rfl⟩
      obtain ⟨S, hS⟩ : ∃ g, GQ + 1 = g := ⟨_, rfl⟩
      rw [hGQ, hS]
      have hHX := A6.out.size
      have hGlt := (A2.out.1.lt G rfl)
      have hGne : G ≠ X11 := by
        intro e
        rcases A2.out.1.2 with ⟨h1, h2⟩ | ⟨g, cap, cur, h1, _, hh, _⟩
        · cases h1
        · simp only [Value.slice.injEq, Option.some.injEq, Addr.mk.injEq, and_true] at h1
          have h3 := A1.out
          rw [← e, h1.1, hh] at h3
          simp at h3
      have hX11r := heap_lt A1.out
      obtain ⟨wz, hwz⟩ : ∃ W, wv.setCell ⟨X4, 0, none⟩ (.slice (some ⟨GQ, 0, none⟩) NQ NQ) = W := ⟨_, rfl⟩
      obtain ⟨Z, hZ⟩ : ∃ Z, ((wr.setCell ⟨X4, 0, none⟩ (.slice (some ⟨GQ, 0, none⟩) NQ NQ)).alloc (.cells Z0 105)).alloc (.cells #[.slice (some ⟨GQ, 0, none⟩) NQ NQ] 22) = Z := ⟨_, rfl⟩
      rw [hZ]
      have hzs : wz.heap.size = wv.heap.size := by rw [← hwz]; simp [World.setCell]
      have s1 : (wr.setCell ⟨X4, 0, none⟩ (.slice (some ⟨GQ, 0, none⟩) NQ NQ)).heap.size = GQ := by simp [World.setCell, hGQ]
      have s2 : ((wr.setCell ⟨X4, 0, none⟩ (.slice (some ⟨GQ, 0, none⟩) NQ NQ)).alloc (.cells Z0 105)).heap.size = S := by rw [World.size_alloc, s1, hS]
      have hBr : Bel wz (wr.setCell ⟨X4, 0, none⟩ (.slice (some ⟨GQ, 0, none⟩) NQ NQ)) := hwz ▸ A6.out.both _ _
      have hBZ : Bel wz Z := hZ ▸ (hBr.alloc _).alloc _
      have hrZ : Bel (wr.setCell ⟨X4, 0, none⟩ (.slice (some ⟨GQ, 0, none⟩) NQ NQ)) Z := hZ ▸ ((Bel.refl _).alloc _).alloc _
      have z4 : Z.heap[X4]? = some (.cells #[.slice (some ⟨GQ, 0, none⟩) NQ NQ] 22 (0, 0)) := hrZ.heap (heap_put (A6.out.heap HV4.out) _)
      have z10 : Z.heap[X10]? = some (.cells #[.slice pv nv cv] 22 (0, 0)) := hrZ.heap (heap_other (A6.out.heap HV10.out) (by simp; omega) _)
      have z11 : Z.heap[X11]? = some (.cells #[.slice (some ⟨G, 0, none⟩) N1 c] 22 (0, 0)) := hrZ.heap (heap_other A1.out (by simp; omega) _)
      have zS : Z.heap[S]? = some (.cells #[.slice (some ⟨GQ, 0, none⟩) NQ NQ] 22 (0, 0)) := hZ ▸ alloc_heap s2
      have zQ : O64 Z wz.heap.size (.slice (some ⟨GQ, 0, none⟩) NQ NQ) (List.replicate NQ 0) := by
        have h := HO0.out (wr.setCell ⟨X4, 0, none⟩ (.slice (some ⟨GQ, 0, none⟩) NQ NQ))
        rw [s1] at h
        refine (h.base (base' := wz.heap.size) (by omega)).bel ?_
        rw [← hZ]
        exact (Bel.refl _).alloc _
      have zL : O64 Z wz.heap.size (.slice (some ⟨G, 0, none⟩) N1 c) L := by
        rw [hzs]
        exact (A2.out.set_kind (A6.out.heap HV4.out) (by decide) 0 _).bel hrZ
      have zV : R64 wz (.slice pv nv cv) LV := by
        rw [← hwz]
        exact LOwn.row (HV0.out.set_kind HV4.out (by decide) 0 _)
      have HBWZ : Hid (Bel w wz) := hwz ▸ HBX.out.set (p := ⟨X4, 0, none⟩) (Nat.le_of_eq HX4.out) _
      have hwz0 : w.heap.size ≤ wz.heap.size := by rw [hzs]; exact HBX.out.size
      have hVv : valB B64 LV = V2 * 2 ^ s := by rw [← F2.out.2.1, val_lim b64_two]
      have hVpos : 0 < V2 * 2 ^ s := by
        obtain ⟨g1, g2, g3, g4, g5, g6, g7, g8, g9⟩ := F1.out
        have h1 := val_ge (B := B64) (k := nv - 1) g5 (by omega)
        rw [g3] at h1
        have h2 : 0 < B64 ^ (nv - 1) := Nat.pow_pos b64_pos
        exact Nat.mul_pos (by omega) (Nat.pow_pos (by omega))
      have HD0 : Hid (DmAt U0 (V2 * 2 ^ s) NQ (List.replicate NQ 0) L []) := by
        obtain ⟨g1, g2, g3, g4, g5, g6, g7, g8, g9⟩ := F1.out
        refine dmAt_zero (dm_zero (by simp) A3.out ?_)
        rw [← HU0.out]
        have h1 := val_ge (B := B64) (k := nv - 1) g5 (by omega)
        rw [g3] at h1
        have h2 := val_lt g8
        rw [g2, g6] at h2
        exact dm_start (m := nv - 2) h2 (by rw [show nv - 2 + 1 = nv - 1 by omega]; exact h1) (by omega) (Nat.pow_pos (by omega))
      have hVl := F2.out.2.2
      have htopV : 0 < limbL LV (nv - 1) := by
        have h1 := limb_some (show nv - 1 < LV.length by omega)
        have h2 := trim_last (l := LV) (k := nv - 1) (by rw [← F2.out.2.1]; exact trim_lim b64_two _) (by omega) h1
        omega
      have hn11 : X4 < X10 ∧ X10 < X11 ∧ X11 < GQ ∧ G < GQ ∧ GQ < S ∧ wz.heap.size ≤ G ∧ wz.heap.size ≤ X11 ∧ X10 < wz.heap.size := by omega
      have hn12 : NQ + nv ≤ N1 := by omega
      obtain ⟨VV, hVV⟩ : ∃ v, V2 * 2 ^ s = v := ⟨_, rfl⟩
      have HVV := Lib.hid hVV
      rw [hVV] at HD0 hVv hVpos
      have HVv := Lib.hid hVv
      have HVl := Lib.hid hVl
      have HNQ : Hid (N1 = n + 1 ∧ NQ + nv = n + 1) := ⟨by omega, by omega⟩
      have hcN : N1 ≤ c := by
        obtain ⟨p', c', he, hlc⟩ := zL.row.form
        simp only [Value.slice.injEq] at he
        obtain ⟨_, h2, h3⟩ := he
        omega
      have hN9 : N1 < 1000000000 := by omega
      refine wp_block ?_
      refine (wpIn_wide (n := 6)).1 ?_
      clear q1 q2 q5 q6 q7 hVV hVv hVl e4 hmk HO0 HBK hZ hwz hGQ hS s1 s2 HV0 HV10 HV4 A1 A2 hzs hrZ hBr
      refine wpIn_rangeFunc_ownG rfl (by omega) (gf := 188) (lb := #[.pointer (some ⟨S, 0, none⟩)]) rfl trivial (enters_of Tryz.func188 (by kernel_rfl) rfl)
        (back_stops 5 (by omega) S (some ⟨GQ, 0, none⟩) GQ 0 NQ NQ (by omega) (fun _ => rfl) Z (heap_lt zS) (fun _ => by have := heap_lt zS; omega) (by rw [heap_cell zS]; rfl) (fun j hj => ⟨_, by rw [Nat.zero_add]; exact (own_cell zQ (limb_some (show j < (List.replicate NQ 0).length by simpa using hj))).1⟩))
        KpB.trans (fun W' l' o' o'' hl' _ _ _ => KpB.put (heap_lt zS) (by have := heap_lt zS; omega) W' l' o'' hl') (Below.refl _ _) (fun _ => rfl)
        (fun pre W' => DmRd wz X4 X10 X11 GQ NQ nv cv N1 c G pv U0 VV (pre.map plN) W' ∧ Below wz.heap.size wz W')
        (fun _ _ _ => False)
        (OwnFrom.and (Own.from (fun s A B row hs hg hr => by
          obtain ⟨Q, L, e1, e2, e3, e4, e5, e6, e7, e8⟩ := hs
          exact ⟨Q, L, e1, e2, e3, own_kept e4 hg hr, own_kept e5 hg hr, heap_kept hg hr e6, heap_kept hg hr e7, heap_kept hg hr e8⟩) _) (ownFrom_below (Nat.le_refl _) hBZ.size))
        (fun c _ _ _ _ hs _ _ => hs)
        ⟨⟨_, _, by simp, HL1.out, HD0.out, zQ, zL, z4, z10, z11⟩, hBZ⟩
        (fun x => { tmps := #[.slice p1 n c1, .slice (some ⟨b2, o2, none⟩) nv c2, undef, undef, .pointer (some ⟨X4, 0, none⟩), .slice none 0 0, .int .i64 0, undef, undef, .int .i64 (s : Int), .pointer (some ⟨X10, 0, none⟩), .pointer (some ⟨X11, 0, none⟩), .int .i64 (plN x : Int), undef, undef, .slice p1 n1 c1, .slice p1 n c1, .slice (some ⟨b2, o2, none⟩) m1 c2, .slice (some ⟨b2, o2, none⟩) nv c2, .bool false, .slice (some ⟨b2, o2, none⟩) nv c2, .int .i64 (nv : Int), .bool false, .bool false, .slice p1 n c1, .slice (some ⟨b2, o2, none⟩) nv c2, .int .i64 C, .bool false, undef, undef, .bool false, .slice (some ⟨b2, o2, none⟩) nv c2, .int .i64 (nv : Int), .bool false, undef, undef, undef, undef, undef, undef, undef, undef, undef, undef, undef, .slice (some ⟨b2, o2, none⟩) nv c2, .slice (some ⟨b2, o2, none⟩) nv c2, .int .i64 (nv : Int), .int .i64 ((nv - 1 : Nat) : Int), .pointer (some ⟨b2, o2 + (nv - 1), none⟩), .int .u64 (y : Int), .int .i64 (s : Int), .slice (some ⟨b2, o2, none⟩) nv c2, .int .i64 (s : Int), .slice pv nv cv, .slice p1 n c1, .int .i64 (s : Int), .slice pu LU.length cu, .slice (some ⟨G, 0, none⟩) N1 c, .int .i64 (N1 : Int), .slice p1 n c1, .int .i64 (n : Int), .bool false, u63, u64, u65, .slice (some ⟨G, 0, none⟩) N1 c, .int .i64 (N1 : Int), .slice pv nv cv, .int .i64 (nv : Int), .int .i64 (NQ : Int), .slice (some ⟨GQ, 0, none⟩) NQ NQ, .slice (some ⟨GQ, 0, none⟩) NQ NQ, .func (.func 188) #[] #[.pointer (some ⟨S, 0, none⟩)], .int .i64 (plN x : Int), .int .u64 x.1.2, undef, undef, undef, undef, undef, undef, undef, undef, undef, undef, undef, undef, undef, undef, undef, undef, undef, undef, undef, undef, undef, undef, undef, undef, undef, undef, undef, undef, undef, undef, undef, undef, undef, undef, undef, undef, undef, undef, undef, undef, undef, undef], defers := [] }) ?assign ?body ?done ?stop
      case assign =>
        intro l x W' K hK
        gi_wp2
        exact hK
      case body => as_aux_lemma =>
        rintro lq pre x W' ⟨⟨Q, L, e1, e2, e3, e4, e5, e6, e7, e8⟩, hBw⟩ _
        have hx := x.2
        obtain ⟨i, hi⟩ : ∃ i, plN x = i := ⟨_, rfl⟩
        have hiN : i < NQ := by rw [← hi]; exact hx
        have HI := Lib.hid hi
        rw [hi]
        have hP := row_part (i := i) (d := nv + 1) (d' := nv + 1) (LOwn.row e5) e2 (by omega) (Nat.le_refl _)
        obtain ⟨q, hqB, hq2, HG⟩ := guess_nv nv h2v hnv9 ((L.drop i).take (nv + 1)) LV hP.all zV.all (by rw [List.length_take, List.length_drop]; omega) HVl.out htopV
        have HGR : Hid (∀ k X, (∃ m, X = W'.drewN m) → CallsIn (Fence.wide.inRound lq) k Tryz.prog 202 #[.slice (some ⟨G, i, none⟩) (nv + 1) (nv + 1), .slice pv nv cv] X (fun e w' => e = .returned (.int .u64 (q : Int)) ∧ ∃ m, w' = X.drewN m)) := by
          rintro k X ⟨m, rfl⟩
          exact CallsIn.inRound lq (callsIn_wide.2 (HG (W'.drewN m) _ _ _ _ (hP.bel (Bel.drewN (Bel.refl _) m)) (zV.bel (Bel.drewN hBw m))))
        have HQ2 := Lib.hid hq2
        have g4 : W'.cell? ⟨X4, 0, none⟩ = some (.slice (some ⟨GQ, 0, none⟩) NQ NQ) := (heap_cell e6 0).trans rfl
        have g10 : W'.cell? ⟨X10, 0, none⟩ = some (.slice pv nv cv) := (heap_cell e7 0).trans rfl
        have g11 : W'.cell? ⟨X11, 0, none⟩ = some (.slice (some ⟨G, 0, none⟩) N1 c) := (heap_cell e8 0).trans rfl
        obtain ⟨gq1, gq2⟩ := own_cell e4 (limb_some (show i < Q.length by omega))
        have hmx : Tryz.prog.follows .mixedOrders = true := by kernel_rfl
        have hfg : Fence.wide.fn 202 := trivial
        have hfl : Fence.wide.fn 203 := trivial
        have hfb : Fence.wide.fn 204 := trivial
        have hdp : 1 ≤ 6 - 1 - 1 := by omega
        have m1 : (i : Int) + (nv : Int) + 1 ≤ (c : Int) := by omega
        have m2 : (i : Int) + (nv : Int) + 1 - (i : Int) = ((nv + 1 : Nat) : Int) := by omega
        have E1 := Lib.hid e1
        have E2 := Lib.hid e2
        have E3 := Lib.hid e3
        have LALL := e5.2
        clear e1 e2 e3 hq2 HG hi
        gi_wp2
        rw [show i + nv + 1 - i = nv + 1 by omega]
        (refine region_stores 6 (by simp) (by kernel_rfl) (by kernel_rfl) (by kernel_rfl) (by kernel_rfl) (by kernel_rfl) (fun _ _ _ _ _ h => h) ?_; simp only [List.take_succ_cons, List.take_zero]; (repeat (first | gi_big_quiet_step ((gi_at_call 202; exact CallsIn.quiet_of (HGR.out _ _ ⟨_, rfl⟩))) | quiet_step_in ((gi_at_call 202; exact CallsIn.quiet_of (HGR.out _ _ ⟨_, rfl⟩))))); refine wpQuietIn_nil ?_; intro _ hw'; obtain ⟨nq, hw''⟩ := hw'; subst hw''; refine wpAnyIn_ready (rs := [6]) (by kernel_rfl) (by simp) ?_; refine AllReadyIn.cons rfl (fun K hK => ?_) AllReadyIn.nil; go_simp; refine hK _ _ ?_; clear hK K; refine wpAnyIn_done (by kernel_rfl) ?_ _)
        gi_wp2
        have n1 : GQ ≠ X4 ∧ GQ ≠ X10 ∧ GQ ≠ X11 ∧ GQ ≠ G ∧ GQ ≠ S ∧ G ≠ X4 ∧ G ≠ X10 ∧ G ≠ X11 ∧ G ≠ S ∧ wz.heap.size ≤ GQ := by omega
        obtain ⟨n1, n2, n3, n4, n5, n6, n7, n8, n9, n10⟩ := n1
        obtain ⟨f1, f2⟩ := own_store (e4.bel (Bel.drewN (Bel.refl _) nq)) (Bel.drewN hBw nq) (Nat.le_refl _) i q hqB
        have f3 : OnlyG GQ W' ((W'.drewN nq).setCell ⟨GQ, i, none⟩ (.int .u64 (q : Int))) := ((OnlyG.refl GQ W').drewN nq).set i (.int .u64 (q : Int))
        have f4 := f3.own (Ne.symm n4) e5
        have f5 := (f3.2 X4 (Ne.symm n1)).trans e6
        have f6 := (f3.2 X10 (Ne.symm n2)).trans e7
        have f7 := (f3.2 X11 (Ne.symm n3)).trans e8
        have f8 : Kept Z.heap.size S GQ NQ W' ((W'.drewN nq).setCell ⟨GQ, i, none⟩ (.int .u64 (q : Int))) := (Kept.drewN _ _ _ _ W' nq).trans (Kept.set n5 _ i _)
        obtain ⟨W1, hW1⟩ : ∃ W, (W'.drewN nq).setCell ⟨GQ, i, none⟩ (.int .u64 (q : Int)) = W := ⟨_, rfl⟩
        rw [hW1] at f1 f2 f4 f5 f6 f7 f8
        rw [hW1]
        have F8 := Lib.hid f8
        have F5 := Lib.hid f5
        have F6 := Lib.hid f6
        have F7 := Lib.hid f7
        clear hW1 f3 g4 g10 g11 gq1 gq2 e6 e7 e8 f8 e4 e5 nq
        have g4 : W1.cell? ⟨X4, 0, none⟩ = some (.slice (some ⟨GQ, 0, none⟩) NQ NQ) := (heap_cell f5 0).trans rfl
        have g10 : W1.cell? ⟨X10, 0, none⟩ = some (.slice pv nv cv) := (heap_cell f6 0).trans rfl
        obtain ⟨gq1, gq2⟩ := own_cell f1 (j := i) (x := q) (by rw [List.getElem?_set_self (by have := E1.out; omega)])
        clear f5 f6 f7
        have HLS := Lib.hid (fun (k m : Nat) => (show CallsIn (Fence.wide.inRound lq) k _ _ _ _ _ from CallsIn.inRound lq (callsIn_wide.2 (lessen_any wz (W1.drewN m) (Bel.drewN f2 m) pv cv nv LV zV HVl.out G i (nv + 1) N1 c q L (f4.bel (Bel.drewN (Bel.refl _) m)) E2.out (by omega) (Nat.le_refl _) (by omega) hqB))))
        have HF1 : Hid (∀ m, O64 (W1.drewN m) wz.heap.size (.slice (some ⟨GQ, 0, none⟩) NQ NQ) (Q.set i q)) := fun m => f1.bel (Bel.drewN (Bel.refl _) m)
        clear f1 f4
        (refine region_stores 6 (by simp) (by kernel_rfl) (by kernel_rfl) (by kernel_rfl) (by kernel_rfl) (by kernel_rfl) (fun _ _ _ _ _ h => h) ?_; simp only [List.take_succ_cons, List.take_zero]; (repeat (first | gi_big_quiet_step (fail) | quiet_step_in (fail))); refine wpQuietIn_nil ?_; intro _ hw'; obtain ⟨nq, hw''⟩ := hw'; subst hw''; refine wpAnyIn_ready (rs := [6]) (by kernel_rfl) (by simp) ?_; refine AllReadyIn.cons rfl (fun K hK => ?_) AllReadyIn.nil; go_simp; gi_wp2_with ((gi_at_call 203; (with_reducible refine (HLS.out _ _).mono ?_); rintro e w3 ⟨d, L1, rfl, hd1, h1l, h1d, h1o, h1b, h1g, h1v⟩; have H1 := Lib.hid (And.intro hd1 (And.intro h1l (And.intro h1d (And.intro h1o (And.intro h1b (And.intro h1g h1v)))))); clear hd1 h1l h1d h1o h1b h1g h1v)); refine wpAnyIn_ready (rs := [7]) (by kernel_rfl) (by simp) ?_; refine AllReadyIn.cons rfl (fun K hK => ?_) AllReadyIn.nil; go_simp; refine hK _ _ ?_; clear hK K; refine wpAnyIn_done (by kernel_rfl) ?_ _)
        gi_wp2
        obtain ⟨hd1, h1l, h1d, h1o, h1b, h1g, h1v⟩ := H1.out
        have HF0 : Hid (DmFix Z.heap.size S wz W' X4 X10 X11 GQ NQ nv cv N1 c G i pv VV Q L q (.bool ((d : Int) != 0)) w3) := by
          have hk : Kept Z.heap.size S GQ NQ W' w3 := F8.out.trans ((Kept.drewN _ _ _ _ W1 nq).trans (Kept.only n9 (Ne.symm n4) (by have := heap_lt zS; omega) h1g))
          refine ⟨(d : Int) != 0, q, L1, rfl, h1l, h1d, h1g.own n4 (HF1.out nq), h1o, (h1g.2 X4 (Ne.symm n6)).trans F5.out, (h1g.2 X10 (Ne.symm n7)).trans F6.out, (h1g.2 X11 (Ne.symm n8)).trans F7.out, h1b, hk, ?_, hqB, Nat.le_refl _, fun hU => ?_⟩
          · have h := fix_eq hd1 h1v
            rw [HVv.out] at h
            exact h
          · exact fix_guess LALL zV.all HVv.out HVl.out hVpos (by have := E2.out; omega) HQ2.out hU
        clear hd1 h1l h1d h1o h1b h1g h1v F5 F6 F7 F8 HF1 HLS g4 g10 gq1 gq2 H1
        gi_loopg [14] q (fun gf s14 wx => DmFix Z.heap.size S wz W' X4 X10 X11 GQ NQ nv cv N1 c G i pv VV Q L gf s14 wx)
        case atStart => exact HF0.out
        case round =>
          obtain ⟨o, qd, L2, rfl, d1, d2, d3, d4, d5, d6, d7, d8, d9, d10, d11, d12, d13⟩ := hrel
          cases o with
          | false =>
            have D10 := Lib.hid d10
            have D1 := Lib.hid d1
            have D2 := Lib.hid d2
            clear d10 d1 d2
            gi_wp2
            refine ⟨d9.1, d9.2, ⟨Q.set i qd, L2, by rw [List.length_set]; exact E1.out, D1.out, ?_, d3, d4, d5, d6, d7⟩, d8⟩
            have hd10 := D10.out
            rw [if_neg (by decide), Nat.add_zero] at hd10
            rw [List.map_append, List.map_singleton, HI.out]
            exact fix_done hVpos E1.out E3.out hd10 d13
          | true =>
            have hq0 : 0 < qd := over_pos d4.2 (by have := E2.out; omega) (by omega) d2 (by rw [if_pos rfl] at d10; exact d10)
            have hless : valB B64 L < VV * (B64 * B64 ^ i) → valB B64 L / (VV * B64 ^ i) < qd := fun hU => over_less d4.2 hVpos (by have := val_lt zV.all; rw [HVv.out, HVl.out] at this; exact this) (by have := E2.out; omega) (by omega) d2 (by rw [if_pos rfl] at d10; exact d10) hU
            obtain ⟨gk', rfl⟩ : ∃ g, gk = g + 1 := ⟨gk - 1, by omega⟩
            obtain ⟨q', hq'⟩ : ∃ q', qd - 1 = q' := ⟨_, rfl⟩
            have w1 : IntKind.u64.wrap ((qd : Int) - 1) = (q' : Int) := by
              rw [← wrap64u (n := q') (by omega)]
              congr 1
              omega
            have g4 : wr.cell? ⟨X4, 0, none⟩ = some (.slice (some ⟨GQ, 0, none⟩) NQ NQ) := (heap_cell d5 0).trans rfl
            have g10 : wr.cell? ⟨X10, 0, none⟩ = some (.slice pv nv cv) := (heap_cell d6 0).trans rfl
            obtain ⟨gq1, gq2⟩ := own_cell d3 (j := i) (x := qd) (by rw [List.getElem?_set_self (by have := E1.out; omega)])
            obtain ⟨f1, f2⟩ := own_store d3 d8 (Nat.le_refl _) i q' (by omega)
            rw [List.set_set] at f1
            have f3 : OnlyG GQ wr (wr.setCell ⟨GQ, i, none⟩ (.int .u64 (q' : Int))) := (OnlyG.refl GQ wr).set i (.int .u64 (q' : Int))
            have f4 := f3.own (Ne.symm n4) d4
            have f5 := (f3.2 X4 (Ne.symm n1)).trans d5
            have f6 := (f3.2 X10 (Ne.symm n2)).trans d6
            have f7 := (f3.2 X11 (Ne.symm n3)).trans d7
            have f8 : Kept Z.heap.size S GQ NQ W' (wr.setCell ⟨GQ, i, none⟩ (.int .u64 (q' : Int))) := d9.trans (Kept.set n5 _ i _)
            have f10 : (wr.setCell ⟨GQ, i, none⟩ (.int .u64 (q' : Int))).cell? ⟨X10, 0, none⟩ = some (.slice pv nv cv) := (heap_cell f6 0).trans rfl
            have HBK2 := Lib.hid (fun (k : Nat) => (show CallsIn (Fence.wide.inRound lq) k _ _ _ _ _ from CallsIn.inRound lq (callsIn_wide.2 (back_any wz _ f2 pv cv nv LV zV HVl.out G i (nv + 1) N1 c L2 f4 d1 (by omega) (Nat.le_refl _) (by omega)))))
            have HA := Lib.hid (And.intro f1 (And.intro f5 (And.intro f6 (And.intro f7 (And.intro f8 (And.intro d2 (And.intro d10 (And.intro d13 hless))))))))
            have HQ' := Lib.hid hq'
            clear f1 f2 f3 f4 f5 f6 f7 f8 d1 d2 d3 d4 d5 d6 d7 d8 d9 d10 d13 hless hq'
            gi_wp2_with (gi_at_call 204; (with_reducible refine (HBK2.out _).mono ?_); rintro e w3 ⟨d, L3, rfl, hd1, h1l, h1d, h1o, h1b, h1g, h1v⟩; have H1 := Lib.hid (And.intro hd1 (And.intro h1l (And.intro h1d (And.intro h1o (And.intro h1b (And.intro h1g h1v)))))); clear hd1 h1l h1d h1o h1b h1g h1v)
            gi_roundg gk'
            case measure => omega
            case rel =>
              obtain ⟨hd1, h1l, h1d, h1o, h1b, h1g, h1v⟩ := H1.out
              obtain ⟨f1, f5, f6, f7, f8, d2, d10, d13, hless⟩ := HA.out
              have hq := HQ'.out
              rw [HVv.out] at h1v
              rw [if_pos trivial] at d10
              refine ⟨!((d : Int) == 1), q', L3, rfl, h1l, h1d.trans d2, h1g.own n4 f1, h1o, (h1g.2 X4 (Ne.symm n6)).trans f5, (h1g.2 X10 (Ne.symm n7)).trans f6, (h1g.2 X11 (Ne.symm n8)).trans f7, h1b, f8.trans (Kept.only n9 (Ne.symm n4) (by have := heap_lt zS; omega) h1g), ?_, by omega, by omega, fun hU => ?_⟩
              · have h := back_eq2 hq0 d10 h1v hd1
                rw [hq] at h
                exact h
              · have := hless hU
                omega
      case done =>
        rintro D ys W hD hys ⟨⟨Q, L, e1, e2, e3, e4, e5, e6, e7, e8⟩, hBw⟩ hK
        have h3 := e3 NQ (Nat.le_refl _) (by rw [hys, List.take_of_length_le (by rw [downs_len]; exact Nat.le_refl _)])
        unfold DmInv at h3
        rw [Nat.sub_self, List.drop_zero, Nat.pow_zero, Nat.mul_one, Nat.mul_one] at h3
        have hsd := shift_div (A := V1) (b := V2) (W := 2 ^ s) (Q := valB B64 Q) (R := valB B64 L) (Nat.pow_pos (by omega)) (by rw [HU0.out, HVV.out]; exact h3.1) (by rw [HVV.out]; exact h3.2)
        have HSD := Lib.hid hsd
        have HT : Hid (∀ X, Bel W X → _) := fun X hX => trim_any (some ⟨GQ, 0, none⟩) NQ Q X (by rw [e1]; exact (LOwn.row e4).bel hX) (by omega)
        have HSR : Hid (∀ X, Bel W X → _) := fun X hX => shr_any (some ⟨G, 0, none⟩) c s L X (by rw [e2]; exact (LOwn.row e5).bel hX) (by omega) (by omega)
        have hLs : valB B64 L / 2 ^ s = V1 % V2 := by rw [hsd.2, Nat.mul_div_cancel _ (Nat.pow_pos (by omega))]
        have hQs : limB B64 (V1 / V2) = trimL Q := by rw [← hsd.1]; exact lim_val b64_two e4.2
        rw [e1] at HT
        rw [e2, hLs] at HSR
        have HQS := Lib.hid hQs
        obtain ⟨t3, ht3⟩ : ∃ t, trimL Q = t := ⟨_, rfl⟩
        have HT3 := Lib.hid ht3
        rw [ht3] at HT
        obtain ⟨RL, hRL⟩ : ∃ t, limB B64 (V1 % V2) = t := ⟨_, rfl⟩
        have HRL := Lib.hid hRL
        rw [hRL] at HSR
        have g4 : W.cell? ⟨X4, 0, none⟩ = some (.slice (some ⟨GQ, 0, none⟩) NQ NQ) := (heap_cell e6 0).trans rfl
        have g11 : W.cell? ⟨X11, 0, none⟩ = some (.slice (some ⟨G, 0, none⟩) N1 c) := (heap_cell e8 0).trans rfl
        have gf4 : W.frozen? ⟨X4, 0, none⟩ = false := heap_frozen e6 0
        have E1 := Lib.hid e1
        have E2 := Lib.hid e2
        clear h3 e3 hsd hLs hQs ht3 hRL e1 e2
        have HWD : Hid (Bel W W.drew) := (Bel.refl W).drew
        go_wp2
        refine wp_region_still_tail 4 (by kernel_rfl) (by kernel_rfl) ?_
        simp only [List.take_succ_cons, List.take_zero, List.drop_succ_cons, List.drop_zero]
        still_step
        still_call (HT.out W.drew HWD.out)
        still_step
        still_step
        refine wpStill_nil ?_
        change wpList _ _ _ _ _ W.drew
        go_wp2_with (go_at_call 205; (with_reducible refine (HSR.out _ HWD.out).mono ?_); rintro e w4 ⟨pr, cr, rfl, ho4, hb4⟩; have HO4 := Lib.hid ho4; have HB4 := Lib.hid hb4; have hh4 := hb4.heap (show W.drew.heap[X4]? = _ from e6); have k4 : w4.cell? ⟨X4, 0, none⟩ = some (.slice (some ⟨GQ, 0, none⟩) NQ NQ) := (heap_cell hh4 0).trans rfl; have kf4 : w4.frozen? ⟨X4, 0, none⟩ = false := heap_frozen hh4 0; have HH4 := Lib.hid hh4; clear ho4 hb4 hh4)
        have hXD : X4 ≠ D := by
          intro e
          rw [e, hK] at e6
          cases e6
        have hWB : Bel W w4 := (Bel.refl W).drew.trans HB4.out
        have hK2 : (w4.setCell ⟨X4, 0, none⟩ (.slice (some ⟨GQ, 0, none⟩) t3.length NQ)).heap[D]? = some (.deferred (some [])) := heap_other (hWB.heap hK) hXD _
        have hc4 : (w4.setCell ⟨X4, 0, none⟩ (.slice (some ⟨GQ, 0, none⟩) t3.length NQ)).cell? ⟨X4, 0, none⟩ = some (.slice (some ⟨GQ, 0, none⟩) t3.length NQ) := World.cell?_setCell_same' _ _ _ (by rw [k4]; rfl)
        have hc5 := cell_kept hc4 (grownBy_putObj' _ D (.deferred none)) (fun r e => by cases e; exact ⟨_, hK2, rfl⟩)
        have hq1 := LOwn.take (m := t3.length) (l := Q) e4 (by rw [← HT3.out]; exact trim_len Q)
        rw [← HT3.out, ← trim_prefix, HT3.out] at hq1
        have hq2 := ((hq1.base hwz0).bel hWB).set_kind HH4.out (by decide) 0 (.slice (some ⟨GQ, 0, none⟩) t3.length NQ)
        have hW0 : w.heap.size ≤ W.heap.size := Nat.le_trans hwz0 (Below.size hBw)
        have hr1 := (HO4.out.base (base' := w.heap.size) hW0).set_kind HH4.out (by decide) 0 (.slice (some ⟨GQ, 0, none⟩) t3.length NQ)
        have hD0 : w.heap.size ≤ D := Nat.le_trans (Nat.le_trans hwz0 hBZ.size) hD
        have hb1 : Bel w (w4.setCell ⟨X4, 0, none⟩ (.slice (some ⟨GQ, 0, none⟩) t3.length NQ)) := ((HBWZ.out.trans hBw).trans hWB).set (p := ⟨X4, 0, none⟩) (Nat.le_of_eq HX4.out) _
        refine ⟨by simp, .inl ⟨_, _, rfl, run_takeDeferred hK2, ?_⟩⟩
        refine ⟨.tuple #[.slice (some ⟨GQ, 0, none⟩) t3.length NQ, .slice pr RL.length cr, .int .i64 0], ?_, ⟨some ⟨GQ, 0, none⟩, NQ, pr, cr, ?_, ?_, ?_, ?_⟩⟩
        · simp [results, Tryz.results174, go_sem, hc5]
        · rw [HQS.out, HT3.out, HRL.out]
        · rw [HQS.out, HT3.out]
          exact own_kept (row := some D) hq2 (grownBy_putObj' _ D (.deferred none)) (fun r e => by cases e; exact ⟨_, hK2, rfl⟩)
        · rw [HRL.out]
          exact own_kept (row := some D) hr1 (grownBy_putObj' _ D (.deferred none)) (fun r e => by cases e; exact ⟨_, hK2, rfl⟩)
        · exact Below.trans hb1 (belowK_b (w := w) (Nat.le_refl _) _ D _ _ hD0 hK2 rfl rfl)
      case stop =>
        rintro D c pre W _ _ h _
        exact h.elim
end Go.Proofs.YtafmfnpjhhaikaaGreatDoor
