/-
  zed: the number of a sign and limbs; the good number; the other way round.
-/
import Derived.Test.YtafmfnpjhhaikaaGreatDoorZah
namespace Go.Proofs.YtafmfnpjhhaikaaGreatDoor
open Go.RowKit Go.Shelf
/-- Limbs with a sign that can be read, of a whole number; the number's own. -/
def ZI (w : World) (v : Value) (x : Int) : Prop := ∃ s u n, v = .agg #[.bool s, u] ∧ NI w u n ∧ sgnI s n = x
def ZC (w : World) (v : Value) (x : Int) : Prop := ∃ u, v = .agg #[.bool (decide (x < 0)), u] ∧ NC w u x.natAbs
theorem ZI.bel {w w' : World} {v : Value} {x : Int} (h : ZI w v x) (hb : Bel w w') : ZI w' v x := by
  obtain ⟨s, u, n, h1, h2, h3⟩ := h
  exact ⟨s, u, n, h1, h2.bel hb, h3⟩
theorem ZC.bel {w w' : World} {v : Value} {x : Int} (h : ZC w v x) (hb : Bel w w') : ZC w' v x := by
  obtain ⟨u, h1, h2⟩ := h
  exact ⟨u, h1, h2.bel hb⟩
def BigLen : Nat := 400000000
/-- A number that is not too large to be reckoned with. -/
def Fit (n : Nat) : Prop := (limB B64 n).length < 400000000
theorem fit_of {n k : Nat} (h : n < B64 ^ k) (hk : k < 400000000) : Fit n := Nat.lt_of_le_of_lt (lim_len b64_two h) hk
theorem NI.fit {w : World} {v : Value} {n : Nat} (h : NI w v n) : Fit n := h.len
theorem Fit.mono {m n : Nat} (h : Fit n) (hm : m ≤ n) : Fit m := Nat.lt_of_le_of_lt (len_mono hm) h
theorem ZC.zi {w : World} {v : Value} {x : Int} (h : ZC w v x) (hn : Fit x.natAbs) : ZI w v x := by
  obtain ⟨u, h1, h2⟩ := h
  exact ⟨_, u, _, h1, h2.ni' hn, sgn_of x⟩
theorem ZI.fit {w : World} {v : Value} {x : Int} (h : ZI w v x) : Fit x.natAbs := by
  obtain ⟨s, u, n, h1, h2, rfl⟩ := h
  rw [sgn_abs]
  exact h2.fit
theorem ZI.parts {w : World} {v : Value} {x : Int} (h : ZI w v x) : ∃ s p c, ∃ l : List Nat, v = .agg #[.bool s, .slice p l.length c] ∧ NI w (.slice p l.length c) x.natAbs ∧ sgnI s x.natAbs = x := by
  obtain ⟨s, u, n, h1, h2, rfl⟩ := h
  obtain ⟨p, c, l, rfl, h4⟩ := h2
  exact ⟨s, p, c, l, h1, by rw [sgn_abs]; exact ⟨p, c, l, rfl, h4⟩, by rw [sgn_abs]⟩
theorem sgn_lt {s : Bool} {n : Nat} : decide (sgnI s n < 0) = (s && decide (0 < n)) := by
  unfold sgnI
  cases s <;> simp <;> omega
theorem NC.slice {w : World} {v : Value} {n : Nat} (h : NC w v n) : ∃ p c k, v = .slice p k c ∧ (k = 0 ↔ n = 0) := by
  obtain ⟨p, c, rfl, _⟩ := h
  exact ⟨p, c, _, rfl, by rw [List.length_eq_zero_iff]; exact lim_nil b64_two⟩
theorem NI.slice {w : World} {v : Value} {n : Nat} (h : NI w v n) : ∃ p c k, v = .slice p k c := by
  obtain ⟨p, c, l, rfl, _⟩ := h
  exact ⟨p, c, _, rfl⟩
/-- Cells that are no numbers of a kind. -/
def NoInt (k : IntKind) (cs : Array Value) : Prop := ∀ v ∈ cs.toList, ∀ x : Int, v ≠ .int k x
theorem row_only {k : IntKind} {B b t : Nat} {w w' : World} {v : Value} {l : List Nat} {cs : Array Value} {fr : Nat × Nat} (h : LRow k B w v l) (ho : OnlyG b w w') (hb : w.heap[b]? = some (.cells cs t fr)) (hn : NoInt k cs) : LRow k B w' v l := by
  obtain ⟨p, c, h1, h2, h3, h4⟩ := h
  refine ⟨p, c, h1, h2, h3, fun hne => ?_⟩
  obtain ⟨b', o, h5, h6⟩ := h4 hne
  refine ⟨b', o, h5, fun j x hj => ?_⟩
  have h7 := h6 j x hj
  have hbb : b' ≠ b := by
    rintro rfl
    unfold World.cell? at h7
    simp only [hb] at h7
    rw [← Array.getElem?_toList] at h7
    exact hn _ (List.mem_of_getElem? h7) x rfl
  exact (World.cell?_of_block (a := ⟨b', o + j, none⟩) (ho.2 b' hbb)).trans h7
section
variable {b t : Nat} {w w' : World} {v : Value} {cs : Array Value} {fr : Nat × Nat}
theorem NI.only {n : Nat} (h : NI w v n) (ho : OnlyG b w w') (hb : w.heap[b]? = some (.cells cs t fr)) (hn : NoInt .u64 cs) : NI w' v n := by
  obtain ⟨p, c, l, h1, h2, h3⟩ := h
  exact ⟨p, c, l, h1, row_only h2 ho hb hn, h3⟩
theorem NC.only {n : Nat} (h : NC w v n) (ho : OnlyG b w w') (hb : w.heap[b]? = some (.cells cs t fr)) (hn : NoInt .u64 cs) : NC w' v n := by
  obtain ⟨p, c, h1, h2, h3⟩ := h
  exact ⟨p, c, h1, row_only h2 ho hb hn, h3⟩
theorem ZI.only {x : Int} (h : ZI w v x) (ho : OnlyG b w w') (hb : w.heap[b]? = some (.cells cs t fr)) (hn : NoInt .u64 cs) : ZI w' v x := by
  obtain ⟨s, u, n, h1, h2, h3⟩ := h
  exact ⟨s, u, n, h1, h2.only ho hb hn, h3⟩
theorem ZC.only {x : Int} (h : ZC w v x) (ho : OnlyG b w w') (hb : w.heap[b]? = some (.cells cs t fr)) (hn : NoInt .u64 cs) : ZC w' v x := by
  obtain ⟨u, h1, h2⟩ := h
  exact ⟨u, h1, h2.only ho hb hn⟩
end
theorem heap_put2 {w : World} {r t : Nat} {u0 u1 : Value} (h : w.heap[r]? = some (.cells #[u0, u1] t (0, 0))) (x y : Value) : ((w.setCell ⟨r, 0, none⟩ x).setCell ⟨r, 1, none⟩ y).heap[r]? = some (.cells #[x, y] t (0, 0)) := by
  simp [World.setCell, Array.getElem?_modify, h]
theorem Bel.own_set {w w3 : World} {o : Obj} (h : Bel (w.alloc o) w3) {W : World} (ho : OnlyG w.heap.size w3 W) (h1 : W.os = w3.os) (h2 : W.tape = w3.tape) (h3 : W.output = w3.output) : Bel w W := by
  have hw : Bel w w3 := ((Bel.refl w).alloc o).trans h
  exact ⟨h1.trans hw.os, h2.trans hw.tape, h3.trans hw.output, by rw [ho.1]; exact hw.size, fun k hk => (ho.2 k (by omega)).trans (Below.block hw k hk)⟩
theorem noInt_int (s : Bool) (p : Option Addr) (n c : Nat) : NoInt .u64 #[.bool s, .slice p n c] := by
  intro v hv x
  simp at hv
  rcases hv with rfl | rfl <;> simp
set_option maxHeartbeats 1000000 in
set_option maxRecDepth 100000 in
theorem mk_made {w : World} (s : Bool) {u : Value} {n : Nat} (h : NI w u n) : Calls Tryz.prog 140 #[.bool s, u] w (Makes w fun v w' => ZC w' v (sgnI s n)) := by
  have HC := Lib.hid (fun X (hX : Bel w X) => mk_add (h.bel hX) (ni_nil X))
  obtain ⟨p, c, k, rfl⟩ := h.slice
  clear h
  have HB : Hid (∀ o, Bel w (w.alloc o)) := fun o => (Bel.refl w).alloc o
  have key : ∀ (w3 : World) (q : Option Addr) (kq cq : Nat) (b : Bool), Bel (w.alloc (.cells #[.bool false, .slice none 0 0] 24)) w3 → NC w3 (.slice q kq cq) (n + 0) → b = decide (sgnI s n < 0) → 
      ∀ W, W = ((w3.setCell ⟨w.heap.size, 0, none⟩ (.bool b)).setCell ⟨w.heap.size, 1, none⟩ (.slice q kq cq)) → Bel w W ∧ ZC W (.agg #[.bool b, .slice q kq cq]) (sgnI s n) ∧ W.cell? ⟨w.heap.size, 0, none⟩ = some (.bool b) ∧ W.cell? ⟨w.heap.size, 1, none⟩ = some (.slice q kq cq) := by
    intro w3 q kq cq b hb hn he W hW
    have hh := bel_new hb
    have ho : OnlyG w.heap.size w3 W := hW ▸ ((OnlyG.refl _ w3).set 0 _).set 1 _
    have hp : W.heap[w.heap.size]? = some (.cells #[.bool b, .slice q kq cq] 24 (0, 0)) := hW ▸ heap_put2 hh _ _
    refine ⟨hb.own_set ho (by rw [hW]; rfl) (by rw [hW]; rfl) (by rw [hW]; rfl), ⟨_, by rw [he], ?_⟩, (heap_cell hp 0).trans rfl, (heap_cell hp 1).trans rfl⟩
    rw [sgn_abs]
    exact hn.only ho hh (noInt_int _ _ _ _)
  have KEY := Lib.hid key
  clear key
  cases s with
  | false =>
    go_enter Tryz.func140, Tryz.ntmps140
    go_wp2_with (go_at_call 175; (with_reducible refine (HC.out _ (HB.out _)).mono ?_); rintro e w3 ⟨v3, rfl, hb3, hv3⟩; have HB3 := Lib.hid hb3; obtain ⟨q, cq, kq, rfl, hk⟩ := hv3.slice; have HV3 := Lib.hid hv3; have hh3 := bel_new hb3; have g0 : w3.cell? ⟨w.heap.size, 0, none⟩ = some (.bool false) := (heap_cell hh3 0).trans rfl; have g1 : w3.cell? ⟨w.heap.size, 1, none⟩ = some (.slice none 0 0) := (heap_cell hh3 1).trans rfl; have g2 : w3.frozen? ⟨w.heap.size, 0, none⟩ = false := heap_frozen hh3 0; have g3 : w3.frozen? ⟨w.heap.size, 1, none⟩ = false := heap_frozen hh3 1; clear hb3 hv3 hh3 hk)
    obtain ⟨k1, k2, k3, k4⟩ := KEY.out w3 q kq cq false HB3.out HV3.out (by rw [sgn_lt]; rfl) _ rfl
    exact bodyPost_ret (v := .agg #[.bool false, .slice q kq cq]) (by simp [results, Tryz.results140, go_sem, k3, k4]) rfl ⟨_, rfl, k1, k2⟩
  | true =>
    go_enter Tryz.func140, Tryz.ntmps140
    go_wp2_with (go_at_call 175; (with_reducible refine (HC.out _ (HB.out _)).mono ?_); rintro e w3 ⟨v3, rfl, hb3, hv3⟩; have HB3 := Lib.hid hb3; obtain ⟨q, cq, kq, rfl, hk⟩ := hv3.slice; have HK := Lib.hid hk; have HV3 := Lib.hid hv3; have hh3 := bel_new hb3; have g0 : w3.cell? ⟨w.heap.size, 0, none⟩ = some (.bool false) := (heap_cell hh3 0).trans rfl; have g1 : w3.cell? ⟨w.heap.size, 1, none⟩ = some (.slice none 0 0) := (heap_cell hh3 1).trans rfl; have g2 : w3.frozen? ⟨w.heap.size, 0, none⟩ = false := heap_frozen hh3 0; have g3 : w3.frozen? ⟨w.heap.size, 1, none⟩ = false := heap_frozen hh3 1; clear hb3 hv3 hh3 hk)
    have hd : decide (0 < kq) = decide (sgnI true n < 0) := by
      rw [sgn_lt]
      have := HK.out
      simp only [Bool.true_and]
      by_cases h0 : n = 0
      · have : kq = 0 := this.2 (by omega)
        subst this; subst h0; rfl
      · have : kq ≠ 0 := fun h => h0 (by have := this.1 h; omega)
        rw [decide_eq_true (by omega), decide_eq_true (by omega)]
    obtain ⟨k1, k2, k3, k4⟩ := KEY.out w3 q kq cq (decide (0 < kq)) HB3.out HV3.out hd _ rfl
    clear hd
    exact bodyPost_ret (v := .agg #[.bool (decide (0 < kq)), .slice q kq cq]) (by simp [results, Tryz.results140, go_sem, k3, k4]) rfl ⟨_, rfl, k1, k2⟩
theorem boxes1 (w : World) (a : Obj) : (w.alloc a).heap[w.heap.size]? = some a ∧ Bel w (w.alloc a) := ⟨heap_alloc_new w a, (Bel.refl w).alloc a⟩
theorem boxes2 (w : World) (a b : Obj) : ((w.alloc a).alloc b).heap[w.heap.size]? = some a ∧ ((w.alloc a).alloc b).heap[w.heap.size + 1]? = some b ∧ Bel w ((w.alloc a).alloc b) :=
  ⟨heap_push_of (heap_alloc_new w a) b, alloc_heap (by simp), ((Bel.refl w).alloc a).alloc b⟩
theorem boxes3 (w : World) (a b c : Obj) : (((w.alloc a).alloc b).alloc c).heap[w.heap.size]? = some a ∧ (((w.alloc a).alloc b).alloc c).heap[w.heap.size + 1]? = some b ∧ (((w.alloc a).alloc b).alloc c).heap[w.heap.size + 1 + 1]? = some c ∧ Bel w (((w.alloc a).alloc b).alloc c) :=
  ⟨heap_push_of (heap_push_of (heap_alloc_new w a) b) c, heap_push_of (alloc_heap (by simp)) c, alloc_heap (by simp), (((Bel.refl w).alloc a).alloc b).alloc c⟩
theorem Bel.only {w w1 W2 : World} {b : Nat} (h : Bel w w1) (ho : OnlyG b w1 W2) (hb : w.heap.size ≤ b) (h1 : W2.os = w1.os) (h2 : W2.tape = w1.tape) (h3 : W2.output = w1.output) : Bel w W2 :=
  ⟨h1.trans h.os, h2.trans h.tape, h3.trans h.output, by rw [ho.1]; exact h.size, fun k hk => (ho.2 k (by omega)).trans (Below.block h k hk)⟩
/-- All cells of a box, one after the other. -/
def setAll (w : World) (b : Nat) : Nat → List Value → World
  | _, [] => w
  | k, v :: vs => setAll (w.setCell ⟨b, k, none⟩ v) b (k + 1) vs
theorem setAll_only {b : Nat} {w : World} : ∀ (vs : List Value) (k : Nat) (w1 : World), OnlyG b w w1 → OnlyG b w (setAll w1 b k vs)
  | [], _, _, h => h
  | v :: vs, k, _, h => setAll_only vs (k + 1) _ (h.set k v)
theorem setAll_rest (b : Nat) : ∀ (vs : List Value) (k : Nat) (w : World), (setAll w b k vs).os = w.os ∧ (setAll w b k vs).tape = w.tape ∧ (setAll w b k vs).output = w.output
  | [], _, _ => ⟨rfl, rfl, rfl⟩
  | v :: vs, k, w => setAll_rest b vs (k + 1) (w.setCell ⟨b, k, none⟩ v)
theorem setAll_heap {b t : Nat} : ∀ (vs pre old : List Value) (w : World), w.heap[b]? = some (.cells (pre ++ old).toArray t (0, 0)) → old.length = vs.length → (setAll w b pre.length vs).heap[b]? = some (.cells (pre ++ vs).toArray t (0, 0))
  | [], pre, old, w, h, hl => by
    have : old = [] := List.length_eq_zero_iff.1 hl
    subst this
    exact h
  | v :: vs, pre, [], w, h, hl => by simp at hl
  | v :: vs, pre, o :: old, w, h, hl => by
    have h1 : (w.setCell ⟨b, pre.length, none⟩ v).heap[b]? = some (.cells ((pre ++ [v]) ++ old).toArray t (0, 0)) := by
      simp [World.setCell, Array.getElem?_modify, h]
    have h2 := setAll_heap vs (pre ++ [v]) old _ h1 (by simpa using hl)
    rw [List.length_append, List.length_singleton, List.append_assoc, List.singleton_append] at h2
    exact h2
theorem finAll {w w1 : World} {vs : List Value} (h : Bel w w1) {b t : Nat} {cs : Array Value} (hb : w1.heap[b]? = some (.cells cs t (0, 0))) (hl : cs.size = vs.length) (hge : w.heap.size ≤ b) {Φ : World → Prop} (hst : ∀ W2, OnlyG b w1 W2 → Φ W2) :
    Bel w (setAll w1 b 0 vs) ∧ Φ (setAll w1 b 0 vs) ∧ (setAll w1 b 0 vs).heap[b]? = some (.cells vs.toArray t (0, 0)) := by
  have ho := setAll_only vs 0 w1 (OnlyG.refl b w1)
  obtain ⟨r1, r2, r3⟩ := setAll_rest b vs 0 w1
  exact ⟨h.only ho hge r1 r2 r3, hst _ ho, setAll_heap vs [] cs.toList w1 (by simpa using hb) (by simpa using hl)⟩
theorem ZC.slice {w : World} {v : Value} {x : Int} (h : ZC w v x) : ∃ p k c, v = .agg #[.bool (decide (x < 0)), .slice p k c] ∧ NC w (.slice p k c) x.natAbs := by
  obtain ⟨u, rfl, hu⟩ := h
  obtain ⟨p, c, k, rfl, _⟩ := hu.slice
  exact ⟨p, k, c, rfl, hu⟩
theorem ZI.slice {w : World} {v : Value} {x : Int} (h : ZI w v x) : ∃ s p k c n, v = .agg #[.bool s, .slice p k c] ∧ NI w (.slice p k c) n ∧ sgnI s n = x := by
  obtain ⟨s, u, n, rfl, hu, hx⟩ := h
  obtain ⟨p, c, k, rfl⟩ := hu.slice
  exact ⟨s, p, k, c, n, rfl, hu, hx⟩
theorem sgn_mul (s t : Bool) (m n : Nat) : sgnI (s != t) (m * n) = sgnI s m * sgnI t n := by
  unfold sgnI
  cases s <;> cases t <;> simp [Int.neg_mul, Int.mul_neg]
set_option maxHeartbeats 1000000 in
set_option maxRecDepth 100000 in
theorem mk_zgood {w : World} {a : Value} {x : Int} (ha : ZI w a x) : Calls Tryz.prog 142 #[a] w (Makes w fun v w' => ZC w' v x) := by
  obtain ⟨s, p, k, c, n, rfl, hn, hx⟩ := ha.slice
  have HM := Lib.hid (fun X (hX : Bel w X) => mk_made s (hn.bel hX))
  rw [hx] at HM
  clear hn ha hx
  go_enter Tryz.func142, Tryz.ntmps142
  go_upto_region 1 with fail
  obtain ⟨hX1, hX2, hbw⟩ := boxes2 w (.cells #[.bool s, .slice p k c] 24) (.cells #[.bool false, .slice none 0 0] 24)
  obtain ⟨W, hW⟩ : ∃ W, (w.alloc (.cells #[.bool s, .slice p k c] 24)).alloc (.cells #[.bool false, .slice none 0 0] 24) = W := ⟨_, rfl⟩
  rw [hW] at hX1 hX2 hbw ⊢
  obtain ⟨X1, eX1⟩ : ∃ X, w.heap.size = X := ⟨_, rfl⟩
  obtain ⟨X2, eX2⟩ : ∃ X, X1 + 1 = X := ⟨_, rfl⟩
  rw [eX1, eX2]
  rw [eX1] at hX1 hX2
  rw [eX2] at hX2
  have HX1 := Lib.hid hX1
  have HX2 := Lib.hid hX2
  have HBW := Lib.hid hbw
  have HGEX1 : Hid (w.heap.size ≤ X1) := by unfold Hid; omega
  have HGEX2 : Hid (w.heap.size ≤ X2) := by unfold Hid; omega
  have HLT : Hid (X1 < X2) := by unfold Hid; omega
  clear hW hbw hX1 hX2 eX1 eX2
  have c0 : W.cell? ⟨X1, 0, none⟩ = some (.bool s) := (heap_cell HX1.out 0).trans rfl
  have c1 : W.cell? ⟨X1, 1, none⟩ = some (.slice p k c) := (heap_cell HX1.out 1).trans rfl
  go_wp2_with (go_at_call 140; (with_reducible refine (HM.out _ HBW.out).mono ?_); rintro e w3 ⟨v3, rfl, hb3, hv3⟩; obtain ⟨q, kq, cq, rfl, hu⟩ := hv3.slice; have HB3 := Lib.hid hb3; have HV3 := Lib.hid hv3; clear hv3 hu; have hhX2 := (hb3).heap HX2.out; have HHX2 := Lib.hid hhX2; have dX20 : w3.cell? ⟨X2, 0, none⟩ = some (.bool false) := (heap_cell hhX2 0).trans rfl; have fX20 : w3.frozen? ⟨X2, 0, none⟩ = false := heap_frozen hhX2 0; have dX21 : w3.cell? ⟨X2, 1, none⟩ = some (.slice none 0 0) := (heap_cell hhX2 1).trans rfl; have fX21 : w3.frozen? ⟨X2, 1, none⟩ = false := heap_frozen hhX2 1; clear hhX2; clear hb3)
  obtain ⟨kb, kp, kh⟩ := finAll (vs := [.bool (decide (x < 0)), .slice q kq cq]) (HBW.out.trans HB3.out) HHX2.out rfl HGEX2.out (Φ := fun W2 => ZC W2 (.agg #[.bool (decide (x < 0)), .slice q kq cq]) x) (fun W2 ho => HV3.out.only ho HHX2.out (noInt_int _ _ _ _))
  have kk0 : (setAll w3 X2 0 [.bool (decide (x < 0)), .slice q kq cq]).cell? ⟨X2, 0, none⟩ = some (.bool (decide (x < 0))) := (heap_cell kh 0).trans rfl
  have kk1 : (setAll w3 X2 0 [.bool (decide (x < 0)), .slice q kq cq]).cell? ⟨X2, 1, none⟩ = some (.slice q kq cq) := (heap_cell kh 1).trans rfl
  simp only [setAll] at kb kp kk0 kk1
  exact bodyPost_ret (v := .agg #[.bool (decide (x < 0)), .slice q kq cq]) (by simp [results, Tryz.results142, go_sem, kk0, kk1]) rfl ⟨_, rfl, kb, kp⟩
set_option maxHeartbeats 1000000 in
set_option maxRecDepth 100000 in
theorem mk_zneg {w : World} {a : Value} {x : Int} (ha : ZI w a x) : Calls Tryz.prog 99 #[a] w (Makes w fun v w' => ZC w' v (-x)) := by
  obtain ⟨s, p, k, c, n, rfl, hn, hx⟩ := ha.slice
  have HM := Lib.hid (fun X (hX : Bel w X) => mk_made (!s) (hn.bel hX))
  rw [sgn_neg, hx] at HM
  obtain ⟨y, hy⟩ : ∃ y, -x = y := ⟨_, rfl⟩
  rw [hy] at HM ⊢
  clear hn ha hx hy
  go_enter Tryz.func99, Tryz.ntmps99
  go_upto_region 1 with fail
  obtain ⟨hX1, hX2, hbw⟩ := boxes2 w (.cells #[.bool s, .slice p k c] 24) (.cells #[.bool false, .slice none 0 0] 24)
  obtain ⟨W, hW⟩ : ∃ W, (w.alloc (.cells #[.bool s, .slice p k c] 24)).alloc (.cells #[.bool false, .slice none 0 0] 24) = W := ⟨_, rfl⟩
  rw [hW] at hX1 hX2 hbw ⊢
  obtain ⟨X1, eX1⟩ : ∃ X, w.heap.size = X := ⟨_, rfl⟩
  obtain ⟨X2, eX2⟩ : ∃ X, X1 + 1 = X := ⟨_, rfl⟩
  rw [eX1, eX2]
  rw [eX1] at hX1 hX2
  rw [eX2] at hX2
  have HX1 := Lib.hid hX1
  have HX2 := Lib.hid hX2
  have HBW := Lib.hid hbw
  have HGEX1 : Hid (w.heap.size ≤ X1) := by unfold Hid; omega
  have HGEX2 : Hid (w.heap.size ≤ X2) := by unfold Hid; omega
  have HLT : Hid (X1 < X2) := by unfold Hid; omega
  clear hW hbw hX1 hX2 eX1 eX2
  have c0 : W.cell? ⟨X1, 0, none⟩ = some (.bool s) := (heap_cell HX1.out 0).trans rfl
  have c1 : W.cell? ⟨X1, 1, none⟩ = some (.slice p k c) := (heap_cell HX1.out 1).trans rfl
  go_wp2_with (go_at_call 140; (with_reducible refine (HM.out _ HBW.out).mono ?_); rintro e w3 ⟨v3, rfl, hb3, hv3⟩; obtain ⟨q, kq, cq, rfl, hu⟩ := hv3.slice; have HB3 := Lib.hid hb3; have HV3 := Lib.hid hv3; clear hv3 hu; have hhX2 := (hb3).heap HX2.out; have HHX2 := Lib.hid hhX2; have dX20 : w3.cell? ⟨X2, 0, none⟩ = some (.bool false) := (heap_cell hhX2 0).trans rfl; have fX20 : w3.frozen? ⟨X2, 0, none⟩ = false := heap_frozen hhX2 0; have dX21 : w3.cell? ⟨X2, 1, none⟩ = some (.slice none 0 0) := (heap_cell hhX2 1).trans rfl; have fX21 : w3.frozen? ⟨X2, 1, none⟩ = false := heap_frozen hhX2 1; clear hhX2; clear hb3)
  obtain ⟨kb, kp, kh⟩ := finAll (vs := [.bool (decide (y < 0)), .slice q kq cq]) (HBW.out.trans HB3.out) HHX2.out rfl HGEX2.out (Φ := fun W2 => ZC W2 (.agg #[.bool (decide (y < 0)), .slice q kq cq]) y) (fun W2 ho => HV3.out.only ho HHX2.out (noInt_int _ _ _ _))
  have kk0 : (setAll w3 X2 0 [.bool (decide (y < 0)), .slice q kq cq]).cell? ⟨X2, 0, none⟩ = some (.bool (decide (y < 0))) := (heap_cell kh 0).trans rfl
  have kk1 : (setAll w3 X2 0 [.bool (decide (y < 0)), .slice q kq cq]).cell? ⟨X2, 1, none⟩ = some (.slice q kq cq) := (heap_cell kh 1).trans rfl
  simp only [setAll] at kb kp kk0 kk1
  exact bodyPost_ret (v := .agg #[.bool (decide (y < 0)), .slice q kq cq]) (by simp [results, Tryz.results99, go_sem, kk0, kk1]) rfl ⟨_, rfl, kb, kp⟩
set_option maxHeartbeats 1000000 in
set_option maxRecDepth 100000 in
theorem mk_zmul {w : World} {a b : Value} {x y : Int} (ha : ZI w a x) (hb : ZI w b y) (hf : Fit (x * y).natAbs) : Calls Tryz.prog 92 #[a, b] w (Makes w fun v w' => ZC w' v (x * y)) := by
  obtain ⟨s1, p1, k1, c1, m, rfl, hm, hx⟩ := ha.slice
  obtain ⟨s2, p2, k2, c2, n, rfl, hn, hy⟩ := hb.slice
  have HMU := Lib.hid (fun X (hX : Bel w X) => mk_mul (hm.bel hX) (hn.bel hX))
  have HMD : Hid (∀ X v, NC X v (m * n) → _) := fun X v hv => mk_made (w := X) (s1 != s2) (hv.ni' (by rw [← hx, ← hy, ← sgn_mul, sgn_abs] at hf; exact hf))
  rw [sgn_mul, hx, hy] at HMD
  obtain ⟨z, hz⟩ : ∃ y', x * y = y' := ⟨_, rfl⟩
  rw [hz] at HMD ⊢
  clear hm hn ha hb hx hy hz hf
  go_enter Tryz.func92, Tryz.ntmps92
  go_upto_region 1 with fail
  obtain ⟨hX2, hX3, hX4, hbw⟩ := boxes3 w (.cells #[.bool s1, .slice p1 k1 c1] 24) (.cells #[.bool s2, .slice p2 k2 c2] 24) (.cells #[.bool false, .slice none 0 0] 24)
  obtain ⟨W, hW⟩ : ∃ W, ((w.alloc (.cells #[.bool s1, .slice p1 k1 c1] 24)).alloc (.cells #[.bool s2, .slice p2 k2 c2] 24)).alloc (.cells #[.bool false, .slice none 0 0] 24) = W := ⟨_, rfl⟩
  rw [hW] at hX2 hX3 hX4 hbw ⊢
  obtain ⟨X2, eX2⟩ : ∃ X, w.heap.size = X := ⟨_, rfl⟩
  obtain ⟨X3, eX3⟩ : ∃ X, X2 + 1 = X := ⟨_, rfl⟩
  obtain ⟨X4, eX4⟩ : ∃ X, X3 + 1 = X := ⟨_, rfl⟩
  rw [eX2, eX3, eX4]
  rw [eX2] at hX2 hX3 hX4
  rw [eX3] at hX3 hX4
  rw [eX4] at hX4
  have HX2 := Lib.hid hX2
  have HX3 := Lib.hid hX3
  have HX4 := Lib.hid hX4
  have HBW := Lib.hid hbw
  have HGEX2 : Hid (w.heap.size ≤ X2) := by unfold Hid; omega
  have HGEX3 : Hid (w.heap.size ≤ X3) := by unfold Hid; omega
  have HGEX4 : Hid (w.heap.size ≤ X4) := by unfold Hid; omega
  have HLT : Hid (X2 < X3 ∧ X3 < X4) := by unfold Hid; omega
  clear hW hbw hX2 hX3 hX4 eX2 eX3 eX4
  refine region_flow 11 [[], [0], [], [2], [1, 3], [], [5], [], [7], [6, 8], [4, 9]] [.is (.pointer (some ⟨X2, 0, none⟩)), .is (.bool s1), .is (.pointer (some ⟨X3, 0, none⟩)), .is (.bool s2), .is (.bool (s1 != s2)), .is (.pointer (some ⟨X2, 1, none⟩)), .is (.slice p1 k1 c1), .is (.pointer (some ⟨X3, 1, none⟩)), .is (.slice p2 k2 c2), .has (fun v w => NC w v (m * n)), .has (fun v w => ZC w v z)] (by kernel_rfl) (by kernel_rfl) rfl (by simp only [Steady]; exact ⟨fun _ _ _ h hb => h.bel hb, fun _ _ _ h hb => h.bel hb, trivial⟩) ?_
  simp only [List.take_succ_cons, List.take_zero, List.drop_succ_cons, List.drop_zero]
  refine fV (by rfl) (by intro w1 hw1 hk1; go_simp) ?_
  simp only [Act.put, sA, sB, sC]
  refine fV (by rfl) (by intro w1 hw1 hk1; have c0 : w1.cell? ⟨X2, 0, none⟩ = some (.bool s1) := (heap_cell (hw1.heap HX2.out) 0).trans rfl; go_simp) ?_
  simp only [Act.put, sA, sB, sC]
  refine fV (by rfl) (by intro w1 hw1 hk1; go_simp) ?_
  simp only [Act.put, sA, sB, sC]
  refine fV (by rfl) (by intro w1 hw1 hk1; have c0 : w1.cell? ⟨X3, 0, none⟩ = some (.bool s2) := (heap_cell (hw1.heap HX3.out) 0).trans rfl; go_simp) ?_
  simp only [Act.put, sA, sB, sC]
  refine fV (by rfl) (by intro w1 hw1 hk1; first | (go_simp; done) | (go_simp; cases s1 <;> cases s2 <;> rfl)) ?_
  simp only [Act.put, sA, sB, sC]
  refine fV (by rfl) (by intro w1 hw1 hk1; go_simp) ?_
  simp only [Act.put, sA, sB, sC]
  refine fV (by rfl) (by intro w1 hw1 hk1; have c1 : w1.cell? ⟨X2, 1, none⟩ = some (.slice p1 k1 c1) := (heap_cell (hw1.heap HX2.out) 1).trans rfl; go_simp) ?_
  simp only [Act.put, sA, sB, sC]
  refine fV (by rfl) (by intro w1 hw1 hk1; go_simp) ?_
  simp only [Act.put, sA, sB, sC]
  refine fV (by rfl) (by intro w1 hw1 hk1; have c1 : w1.cell? ⟨X3, 1, none⟩ = some (.slice p2 k2 c2) := (heap_cell (hw1.heap HX3.out) 1).trans rfl; go_simp) ?_
  simp only [Act.put, sA, sB, sC]
  refine fH (by rfl) (by intro w1 hw1 hk1; exact HMU.out _ (HBW.out.trans hw1)) (by intro; go_simp) (fun v9 => ?_)
  simp only [Act.put, sA, sB, sC]
  refine fH (by rfl) (by intro w1 hw1 hk1; obtain ⟨g9, -⟩ := hk1; exact HMD.out _ _ g9) (by intro; go_simp) (fun v10 => ?_)
  simp only [Act.put, sA, sB, sC]
  intro w1 hw1 hk1
  obtain ⟨g10, g9, -⟩ := hk1
  obtain ⟨q, kq, cq, rfl, -⟩ := g10.slice
  have HB3 := Lib.hid hw1
  have HV3 := Lib.hid g10
  have hhX4 := (hw1).heap HX4.out
  have HHX4 := Lib.hid hhX4
  have dX40 : w1.cell? ⟨X4, 0, none⟩ = some (.bool false) := (heap_cell hhX4 0).trans rfl
  have fX40 : w1.frozen? ⟨X4, 0, none⟩ = false := heap_frozen hhX4 0
  have dX41 : w1.cell? ⟨X4, 1, none⟩ = some (.slice none 0 0) := (heap_cell hhX4 1).trans rfl
  have fX41 : w1.frozen? ⟨X4, 1, none⟩ = false := heap_frozen hhX4 1
  clear hhX4
  clear hw1 g10 g9
  go_wp2
  obtain ⟨kb, kp, kh⟩ := finAll (vs := [.bool (decide (z < 0)), .slice q kq cq]) (HBW.out.trans HB3.out) HHX4.out rfl HGEX4.out (Φ := fun W2 => ZC W2 (.agg #[.bool (decide (z < 0)), .slice q kq cq]) z) (fun W2 ho => HV3.out.only ho HHX4.out (noInt_int _ _ _ _))
  have kk0 : (setAll w1 X4 0 [.bool (decide (z < 0)), .slice q kq cq]).cell? ⟨X4, 0, none⟩ = some (.bool (decide (z < 0))) := (heap_cell kh 0).trans rfl
  have kk1 : (setAll w1 X4 0 [.bool (decide (z < 0)), .slice q kq cq]).cell? ⟨X4, 1, none⟩ = some (.slice q kq cq) := (heap_cell kh 1).trans rfl
  simp only [setAll] at kb kp kk0 kk1
  exact bodyPost_ret (v := .agg #[.bool (decide (z < 0)), .slice q kq cq]) (by simp [results, Tryz.results92, go_sem, kk0, kk1]) rfl ⟨_, rfl, kb, kp⟩
theorem store_two {w1 : World} {X2 X3 X4 : Nat} {a0 a1 b0 b1 r0 r1 : Value} {s t : Bool} {p q : Option Addr} {k c k' c' m n : Nat} (h2 : w1.heap[X2]? = some (.cells #[a0, a1] 24 (0, 0))) (h3 : w1.heap[X3]? = some (.cells #[b0, b1] 24 (0, 0))) (h4 : w1.heap[X4]? = some (.cells #[r0, r1] 24 (0, 0)))
    (n23 : X2 ≠ X3) (n24 : X2 ≠ X4) (n34 : X3 ≠ X4) (i2 : NoInt .u64 #[a0, a1]) (i3 : NoInt .u64 #[b0, b1]) (hu : NC w1 (.slice p k c) m) (hv : NC w1 (.slice q k' c') n) {w : World} (hb : Bel w w1) (g2 : w.heap.size ≤ X2) (g3 : w.heap.size ≤ X3) {W : World}
    (hW : W = (((w1.setCell ⟨X2, 0, none⟩ (.bool s)).setCell ⟨X2, 1, none⟩ (.slice p k c)).setCell ⟨X3, 0, none⟩ (.bool t)).setCell ⟨X3, 1, none⟩ (.slice q k' c')) :
    W.heap[X2]? = some (.cells #[.bool s, .slice p k c] 24 (0, 0)) ∧ W.heap[X3]? = some (.cells #[.bool t, .slice q k' c'] 24 (0, 0)) ∧ W.heap[X4]? = some (.cells #[r0, r1] 24 (0, 0)) ∧ NC W (.slice p k c) m ∧ NC W (.slice q k' c') n ∧ Bel w W := by
  have e : W = setAll (setAll w1 X2 0 [.bool s, .slice p k c]) X3 0 [.bool t, .slice q k' c'] := hW
  have o1 := setAll_only [Value.bool s, .slice p k c] 0 w1 (OnlyG.refl X2 w1)
  have s1 := setAll_heap [Value.bool s, .slice p k c] [] [a0, a1] w1 h2 rfl
  have o2 := setAll_only [Value.bool t, .slice q k' c'] 0 _ (OnlyG.refl X3 (setAll w1 X2 0 [.bool s, .slice p k c]))
  have s3 := setAll_heap [Value.bool t, .slice q k' c'] [] [b0, b1] (setAll w1 X2 0 [.bool s, .slice p k c]) ((o1.2 X3 (Ne.symm n23)).trans h3) rfl
  obtain ⟨r1', r2', r3'⟩ := setAll_rest X2 [Value.bool s, .slice p k c] 0 w1
  obtain ⟨t1', t2', t3'⟩ := setAll_rest X3 [Value.bool t, .slice q k' c'] 0 (setAll w1 X2 0 [.bool s, .slice p k c])
  rw [e]
  refine ⟨(o2.2 X2 n23).trans s1, s3, (o2.2 X4 (Ne.symm n34)).trans ((o1.2 X4 (Ne.symm n24)).trans h4), (hu.only o1 h2 i2).only o2 ((o1.2 X3 (Ne.symm n23)).trans h3) i3, (hv.only o1 h2 i2).only o2 ((o1.2 X3 (Ne.symm n23)).trans h3) i3, ?_⟩
  exact (hb.only o1 g2 r1' r2' r3').only o2 g3 t1' t2' t3'
theorem sum_same {x y : Int} (h : decide (x < 0) = decide (y < 0)) : sgnI (decide (x < 0)) (x.natAbs + y.natAbs) = x + y ∧ (x + y).natAbs = x.natAbs + y.natAbs := by
  unfold sgnI
  by_cases hx : x < 0
  · have hy : y < 0 := by simpa [hx] using h
    simp [hx]
    omega
  · have hy : ¬ y < 0 := by simpa [hx] using h
    simp [hx]
    omega
theorem sum_diff {x y : Int} (h : ¬ decide (x < 0) = decide (y < 0)) (hle : y.natAbs ≤ x.natAbs) : sgnI (decide (x < 0)) (x.natAbs - y.natAbs) = x + y ∧ (x + y).natAbs = x.natAbs - y.natAbs := by
  unfold sgnI
  by_cases hx : x < 0
  · have hy : ¬ y < 0 := by simpa [hx] using h
    simp [hx]
    omega
  · have hy : y < 0 := by simpa [hx] using h
    simp [hx]
    omega
set_option maxHeartbeats 2000000 in
set_option maxRecDepth 100000 in
theorem mk_zadd {w : World} {a b : Value} {x y : Int} (ha : ZI w a x) (hb : ZI w b y) (hf : Fit (x + y).natAbs) : Calls Tryz.prog 136 #[a, b] w (Makes w fun v w' => ZC w' v (x + y)) := by
  obtain ⟨s1, p1, k1, c1, m, rfl, hm, hx⟩ := ha.slice
  obtain ⟨s2, p2, k2, c2, n, rfl, hn, hy⟩ := hb.slice
  have FX := Lib.hid ha.fit
  have FY := Lib.hid hb.fit
  have HA := Lib.hid (fun X (hX : Bel w X) => mk_zgood (ha.bel hX))
  have HB := Lib.hid (fun X (hX : Bel w X) => mk_zgood (hb.bel hX))
  obtain ⟨z, hz⟩ : ∃ y', x + y = y' := ⟨_, rfl⟩
  have HZ := Lib.hid hz
  have HF := Lib.hid hf
  rw [hz] at HF ⊢
  clear hm hn ha hb hx hy hz hf
  go_enter Tryz.func136, Tryz.ntmps136
  go_upto_region 1 with fail
  obtain ⟨hX2, hX3, hX4, hbw⟩ := boxes3 w (.cells #[.bool s1, .slice p1 k1 c1] 24) (.cells #[.bool s2, .slice p2 k2 c2] 24) (.cells #[.bool false, .slice none 0 0] 24)
  obtain ⟨W, hW⟩ : ∃ W, ((w.alloc (.cells #[.bool s1, .slice p1 k1 c1] 24)).alloc (.cells #[.bool s2, .slice p2 k2 c2] 24)).alloc (.cells #[.bool false, .slice none 0 0] 24) = W := ⟨_, rfl⟩
  rw [hW] at hX2 hX3 hX4 hbw ⊢
  obtain ⟨X2, eX2⟩ : ∃ X, w.heap.size = X := ⟨_, rfl⟩
  obtain ⟨X3, eX3⟩ : ∃ X, X2 + 1 = X := ⟨_, rfl⟩
  obtain ⟨X4, eX4⟩ : ∃ X, X3 + 1 = X := ⟨_, rfl⟩
  rw [eX2, eX3, eX4]
  rw [eX2] at hX2 hX3 hX4
  rw [eX3] at hX3 hX4
  rw [eX4] at hX4
  have HX2 := Lib.hid hX2
  have HX3 := Lib.hid hX3
  have HX4 := Lib.hid hX4
  have HBW := Lib.hid hbw
  have HGEX2 : Hid (w.heap.size ≤ X2) := by unfold Hid; omega
  have HGEX3 : Hid (w.heap.size ≤ X3) := by unfold Hid; omega
  have HGEX4 : Hid (w.heap.size ≤ X4) := by unfold Hid; omega
  have HLT : Hid (X2 < X3 ∧ X3 < X4) := by unfold Hid; omega
  clear hW hbw hX2 hX3 hX4 eX2 eX3 eX4
  refine region_flow 4 [[], [0], [], [2]] [.is (.agg #[.bool s1, .slice p1 k1 c1]), .has (fun v w => ZC w v x), .is (.agg #[.bool s2, .slice p2 k2 c2]), .has (fun v w => ZC w v y)] (by kernel_rfl) (by kernel_rfl) rfl (by simp only [Steady]; exact ⟨fun _ _ _ h hb => h.bel hb, fun _ _ _ h hb => h.bel hb, trivial⟩) ?_
  simp only [List.take_succ_cons, List.take_zero, List.drop_succ_cons, List.drop_zero]
  refine fV (by rfl) (by intro w1 hw1 hk1; obtain ⟨c0, c1⟩ := boxc2 (hw1.heap HX2.out); go_simp) ?_
  simp only [Act.put, sA, sB, sC]
  refine fH (by rfl) (by intro w1 hw1 hk1; exact HA.out _ (HBW.out.trans hw1)) (by intro; go_simp) (fun v1 => ?_)
  simp only [Act.put, sA, sB, sC]
  refine fV (by rfl) (by intro w1 hw1 hk1; obtain ⟨c0, c1⟩ := boxc2 (hw1.heap HX3.out); go_simp) ?_
  simp only [Act.put, sA, sB, sC]
  refine fH (by rfl) (by intro w1 hw1 hk1; exact HB.out _ (HBW.out.trans hw1)) (by intro; go_simp) (fun v3 => ?_)
  simp only [Act.put, sA, sB, sC]
  intro w1 hw1 hk1
  obtain ⟨g3, g1, -⟩ := hk1
  obtain ⟨q1, j1, d1, rfl, n1⟩ := g1.slice
  obtain ⟨q2, j2, d2, rfl, n2⟩ := g3.slice
  obtain ⟨hlt1, hlt2⟩ := HLT.out
  have ST := Lib.hid (fun W' hW' => store_two (hw1.heap HX2.out) (hw1.heap HX3.out) (hw1.heap HX4.out) (by omega) (by omega) (by omega) (noInt_int _ _ _ _) (noInt_int _ _ _ _) n1 n2 (HBW.out.trans hw1) HGEX2.out HGEX3.out (s := decide (x < 0)) (t := decide (y < 0)) (W := W') hW')
  have b20 : w1.cell? ⟨X2, 0, none⟩ = some (.bool s1) := (heap_cell (hw1.heap HX2.out) 0).trans rfl
  have b21 : w1.cell? ⟨X2, 1, none⟩ = some (.slice p1 k1 c1) := (heap_cell (hw1.heap HX2.out) 1).trans rfl
  have b22 : w1.frozen? ⟨X2, 0, none⟩ = false := heap_frozen (hw1.heap HX2.out) 0
  have b23 : w1.frozen? ⟨X2, 1, none⟩ = false := heap_frozen (hw1.heap HX2.out) 1
  have b30 : w1.cell? ⟨X3, 0, none⟩ = some (.bool s2) := (heap_cell (hw1.heap HX3.out) 0).trans rfl
  have b31 : w1.cell? ⟨X3, 1, none⟩ = some (.slice p2 k2 c2) := (heap_cell (hw1.heap HX3.out) 1).trans rfl
  have b32 : w1.frozen? ⟨X3, 0, none⟩ = false := heap_frozen (hw1.heap HX3.out) 0
  have b33 : w1.frozen? ⟨X3, 1, none⟩ = false := heap_frozen (hw1.heap HX3.out) 1
  have hne1 : X2 ≠ X3 := by omega
  clear g1 g3 n1 n2 hw1 HX2 HX3 HX4 HA HB HBW
  go_upto_region 2 with fail
  obtain ⟨W2, hW2⟩ : ∃ W', (((w1.setCell ⟨X2, 0, none⟩ (.bool (decide (x < 0)))).setCell ⟨X2, 1, none⟩ (.slice q1 j1 d1)).setCell ⟨X3, 0, none⟩ (.bool (decide (y < 0)))).setCell ⟨X3, 1, none⟩ (.slice q2 j2 d2) = W' := ⟨_, rfl⟩
  rw [hW2]
  obtain ⟨h2, h3, h4, hn1, hn2, hbw⟩ := ST.out W2 hW2.symm
  have HX2 := Lib.hid h2
  have HX3 := Lib.hid h3
  have HX4 := Lib.hid h4
  have HN1 := Lib.hid hn1
  have HN2 := Lib.hid hn2
  have HBW := Lib.hid hbw
  clear b20 b21 b22 b23 b30 b31 b32 b33 h2 h3 h4 hn1 hn2 hbw hW2 ST
  obtain ⟨dx, hdx⟩ : ∃ d, decide (x < 0) = d := ⟨_, rfl⟩
  obtain ⟨dy, hdy⟩ : ∃ d, decide (y < 0) = d := ⟨_, rfl⟩
  have HDX := Lib.hid hdx
  have HDY := Lib.hid hdy
  rw [hdx] at HX2 ⊢
  rw [hdy] at HX3 ⊢
  have c20 : W2.cell? ⟨X2, 0, none⟩ = some (.bool dx) := (heap_cell HX2.out 0).trans rfl
  have c21 : W2.cell? ⟨X2, 1, none⟩ = some (.slice q1 j1 d1) := (heap_cell HX2.out 1).trans rfl
  have c30 : W2.cell? ⟨X3, 0, none⟩ = some (.bool dy) := (heap_cell HX3.out 0).trans rfl
  have c31 : W2.cell? ⟨X3, 1, none⟩ = some (.slice q2 j2 d2) := (heap_cell HX3.out 1).trans rfl
  have c22 : W2.frozen? ⟨X2, 0, none⟩ = false := heap_frozen HX2.out 0
  have c23 : W2.frozen? ⟨X2, 1, none⟩ = false := heap_frozen HX2.out 1
  have c32 : W2.frozen? ⟨X3, 0, none⟩ = false := heap_frozen HX3.out 0
  have c33 : W2.frozen? ⟨X3, 1, none⟩ = false := heap_frozen HX3.out 1
  clear hdx hdy
  by_cases hs : dx = dy
  · have hsm := sum_same (x := x) (y := y) (by rw [HDX.out, HDY.out]; exact hs)
    rw [HDX.out, HZ.out] at hsm
    have HADD := Lib.hid (fun X (hX : Bel W2 X) => mk_add ((HN1.out.ni' FX.out).bel hX) ((HN2.out.ni' FY.out).bel hX))
    have HMD : Hid (∀ X v, NC X v (x.natAbs + y.natAbs) → _) := fun X v hv => mk_made (w := X) dx (hv.ni' (by have := HF.out; rw [hsm.2] at this; exact this))
    rw [hsm.1] at HMD
    have hd : (dx == dy) = true := by rw [hs]; simp
    clear hsm hs
    go_upto_region 3 with fail
    refine region_flow 8 [[], [0], [], [2], [], [4], [3, 5], [1, 6]] [.is (.pointer (some ⟨X2, 0, none⟩)), .is (.bool dx), .is (.pointer (some ⟨X2, 1, none⟩)), .is (.slice q1 j1 d1), .is (.pointer (some ⟨X3, 1, none⟩)), .is (.slice q2 j2 d2), .has (fun v w => NC w v (x.natAbs + y.natAbs)), .has (fun v w => ZC w v z)] (by kernel_rfl) (by kernel_rfl) rfl (by simp only [Steady]; exact ⟨fun _ _ _ h hb => h.bel hb, fun _ _ _ h hb => h.bel hb, trivial⟩) ?_
    simp only [List.take_succ_cons, List.take_zero, List.drop_succ_cons, List.drop_zero]
    refine fV (by rfl) (by intro w1 hw1 hk1; go_simp) ?_
    simp only [Act.put, sA, sB, sC]
    refine fV (by rfl) (by intro w1 hw1 hk1; have c0 : w1.cell? ⟨X2, 0, none⟩ = some (.bool dx) := (heap_cell (hw1.heap HX2.out) 0).trans rfl; go_simp) ?_
    simp only [Act.put, sA, sB, sC]
    refine fV (by rfl) (by intro w1 hw1 hk1; go_simp) ?_
    simp only [Act.put, sA, sB, sC]
    refine fV (by rfl) (by intro w1 hw1 hk1; have c1 : w1.cell? ⟨X2, 1, none⟩ = some (.slice q1 j1 d1) := (heap_cell (hw1.heap HX2.out) 1).trans rfl; go_simp) ?_
    simp only [Act.put, sA, sB, sC]
    refine fV (by rfl) (by intro w1 hw1 hk1; go_simp) ?_
    simp only [Act.put, sA, sB, sC]
    refine fV (by rfl) (by intro w1 hw1 hk1; have c1 : w1.cell? ⟨X3, 1, none⟩ = some (.slice q2 j2 d2) := (heap_cell (hw1.heap HX3.out) 1).trans rfl; go_simp) ?_
    simp only [Act.put, sA, sB, sC]
    refine fH (by rfl) (by intro w1 hw1 hk1; exact HADD.out _ hw1) (by intro; go_simp) (fun v6 => ?_)
    simp only [Act.put, sA, sB, sC]
    refine fH (by rfl) (by intro w1 hw1 hk1; obtain ⟨g6, -⟩ := hk1; exact HMD.out _ _ g6) (by intro; go_simp) (fun v7 => ?_)
    simp only [Act.put, sA, sB, sC]
    intro w1 hw1 hk1
    obtain ⟨g7, g6, -⟩ := hk1
    obtain ⟨q, kq, cq, rfl, -⟩ := g7.slice
    have HB3 := Lib.hid hw1
    have HV3 := Lib.hid g7
    have hhX4 := (hw1).heap HX4.out
    have HHX4 := Lib.hid hhX4
    have dX40 : w1.cell? ⟨X4, 0, none⟩ = some (.bool false) := (heap_cell hhX4 0).trans rfl
    have fX40 : w1.frozen? ⟨X4, 0, none⟩ = false := heap_frozen hhX4 0
    have dX41 : w1.cell? ⟨X4, 1, none⟩ = some (.slice none 0 0) := (heap_cell hhX4 1).trans rfl
    have fX41 : w1.frozen? ⟨X4, 1, none⟩ = false := heap_frozen hhX4 1
    clear hhX4
    clear hw1 g7 g6
    go_wp2
    obtain ⟨kb, kp, kh⟩ := finAll (vs := [.bool (decide (z < 0)), .slice q kq cq]) (HBW.out.trans HB3.out) HHX4.out rfl HGEX4.out (Φ := fun W2 => ZC W2 (.agg #[.bool (decide (z < 0)), .slice q kq cq]) z) (fun W2 ho => HV3.out.only ho HHX4.out (noInt_int _ _ _ _))
    have kk0 : (setAll w1 X4 0 [.bool (decide (z < 0)), .slice q kq cq]).cell? ⟨X4, 0, none⟩ = some (.bool (decide (z < 0))) := (heap_cell kh 0).trans rfl
    have kk1 : (setAll w1 X4 0 [.bool (decide (z < 0)), .slice q kq cq]).cell? ⟨X4, 1, none⟩ = some (.slice q kq cq) := (heap_cell kh 1).trans rfl
    simp only [setAll] at kb kp kk0 kk1
    exact bodyPost_ret (v := .agg #[.bool (decide (z < 0)), .slice q kq cq]) (by simp [results, Tryz.results136, go_sem, kk0, kk1]) rfl ⟨_, rfl, kb, kp⟩
  · have hd : (dx == dy) = false := by simpa using hs
    have hdd : ¬ decide (x < 0) = decide (y < 0) := by rw [HDX.out, HDY.out]; exact hs
    have HC := Lib.hid (mk_cmp (HN1.out.ni' FX.out) (HN2.out.ni' FY.out))
    obtain ⟨C, hC⟩ : ∃ C, cmpN x.natAbs y.natAbs = C := ⟨_, rfl⟩
    rw [hC] at HC
    by_cases hlt : x.natAbs < y.natAbs
    · have hC0 : decide (C < 0) = true := by rw [cmpN_lt hlt] at hC; rw [← hC]; rfl
      have hsd := sum_diff (x := y) (y := x) (fun h => hdd h.symm) (by omega)
      rw [HDY.out, Int.add_comm, HZ.out] at hsd
      have HSUB := Lib.hid (fun X (N1 : NC X (.slice q1 j1 d1) x.natAbs) (N2 : NC X (.slice q2 j2 d2) y.natAbs) => mk_sub (N2.ni' FY.out) (N1.ni' FX.out) (by omega))
      have HMD : Hid (∀ X v, NC X v (y.natAbs - x.natAbs) → _) := fun X v hv => mk_made (w := X) dy (hv.ni' (by have := HF.out; rw [hsd.2] at this; exact this))
      rw [hsd.1] at HMD
      clear hsd hs hdd hC hlt
      go_upto_region 5 with (go_at_call 115; (with_reducible refine HC.out.mono ?_); rintro e w3 ⟨v3, rfl, hb3, rfl⟩; have HB3 := Lib.hid hb3; clear hb3)
      have e2 := HB3.out.heap HX2.out
      have e3 := HB3.out.heap HX3.out
      obtain ⟨hlt1, hlt2⟩ := HLT.out
      have ST := Lib.hid (fun W' hW' => store_two e2 e3 (HB3.out.heap HX4.out) (by omega) (by omega) (by omega) (noInt_int _ _ _ _) (noInt_int _ _ _ _) (HN2.out.bel HB3.out) (HN1.out.bel HB3.out) (HBW.out.trans HB3.out) HGEX2.out HGEX3.out (s := dy) (t := dx) (W := W') hW')
      have b20 : w3.cell? ⟨X2, 0, none⟩ = some (.bool dx) := (heap_cell e2 0).trans rfl
      have b21 : w3.cell? ⟨X2, 1, none⟩ = some (.slice q1 j1 d1) := (heap_cell e2 1).trans rfl
      have b22 : w3.frozen? ⟨X2, 0, none⟩ = false := heap_frozen e2 0
      have b23 : w3.frozen? ⟨X2, 1, none⟩ = false := heap_frozen e2 1
      have b30 : w3.cell? ⟨X3, 0, none⟩ = some (.bool dy) := (heap_cell e3 0).trans rfl
      have b31 : w3.cell? ⟨X3, 1, none⟩ = some (.slice q2 j2 d2) := (heap_cell e3 1).trans rfl
      have b32 : w3.frozen? ⟨X3, 0, none⟩ = false := heap_frozen e3 0
      have b33 : w3.frozen? ⟨X3, 1, none⟩ = false := heap_frozen e3 1
      have hne1 : X2 ≠ X3 := by omega
      clear e2 e3 hd hC0
      go_upto_region 6 with fail
      obtain ⟨W4, hW4⟩ : ∃ W', (((w3.setCell ⟨X2, 0, none⟩ (.bool dy)).setCell ⟨X2, 1, none⟩ (.slice q2 j2 d2)).setCell ⟨X3, 0, none⟩ (.bool dx)).setCell ⟨X3, 1, none⟩ (.slice q1 j1 d1) = W' := ⟨_, rfl⟩
      rw [hW4]
      obtain ⟨h2, h3, h4, hn1, hn2, hbw⟩ := ST.out W4 hW4.symm
      have HN4 := Lib.hid hn1
      have HM4 := Lib.hid hn2
      have HBW4 := Lib.hid hbw
      have HY4 := Lib.hid h4
      have HY2 := Lib.hid h2
      have m20 : W4.cell? ⟨X2, 0, none⟩ = some (.bool dy) := (heap_cell h2 0).trans rfl
      have m21 : W4.cell? ⟨X2, 1, none⟩ = some (.slice q2 j2 d2) := (heap_cell h2 1).trans rfl
      have m31 : W4.cell? ⟨X3, 1, none⟩ = some (.slice q1 j1 d1) := (heap_cell h3 1).trans rfl
      clear b20 b21 b22 b23 b30 b31 b32 b33 c20 c21 c22 c23 c30 c31 c32 c33 h2 h3 h4 hn1 hn2 hbw hW4 ST HX4
      have HX4 := HY4
      go_wp2_with (first
        | (go_at_call 176; (with_reducible refine (HSUB.out _ HM4.out HN4.out).mono ?_); rintro e w5 ⟨v5, rfl, hb5, u5, rfl, hu5⟩; have HB5 := Lib.hid hb5; have HU5 := Lib.hid hu5; have m50 : w5.cell? ⟨X2, 0, none⟩ = some (.bool dy) := hb5.cell m20; clear hb5 hu5)
        | (go_at_call 140; (with_reducible refine (HMD.out _ _ HU5.out).mono ?_); rintro e w6 ⟨v6, rfl, hb6, hv6⟩; obtain ⟨q, kq, cq, rfl, -⟩ := hv6.slice; have HB6 := Lib.hid (HB5.out.trans hb6); have HV6 := Lib.hid hv6; clear hv6 hb6; have hhX4 := (HB6.out).heap HX4.out; have HHX4 := Lib.hid hhX4; have dX40 : w6.cell? ⟨X4, 0, none⟩ = some (.bool false) := (heap_cell hhX4 0).trans rfl; have fX40 : w6.frozen? ⟨X4, 0, none⟩ = false := heap_frozen hhX4 0; have dX41 : w6.cell? ⟨X4, 1, none⟩ = some (.slice none 0 0) := (heap_cell hhX4 1).trans rfl; have fX41 : w6.frozen? ⟨X4, 1, none⟩ = false := heap_frozen hhX4 1; clear hhX4))
      obtain ⟨kb, kp, kh⟩ := finAll (vs := [.bool (decide (z < 0)), .slice q kq cq]) (HBW4.out.trans HB6.out) HHX4.out rfl HGEX4.out (Φ := fun W2 => ZC W2 (.agg #[.bool (decide (z < 0)), .slice q kq cq]) z) (fun W2 ho => HV6.out.only ho HHX4.out (noInt_int _ _ _ _))
      have kk0 : (setAll w6 X4 0 [.bool (decide (z < 0)), .slice q kq cq]).cell? ⟨X4, 0, none⟩ = some (.bool (decide (z < 0))) := (heap_cell kh 0).trans rfl
      have kk1 : (setAll w6 X4 0 [.bool (decide (z < 0)), .slice q kq cq]).cell? ⟨X4, 1, none⟩ = some (.slice q kq cq) := (heap_cell kh 1).trans rfl
      simp only [setAll] at kb kp kk0 kk1
      exact bodyPost_ret (v := .agg #[.bool (decide (z < 0)), .slice q kq cq]) (by simp [results, Tryz.results136, go_sem, kk0, kk1]) rfl ⟨_, rfl, kb, kp⟩
    · have hC0 : decide (C < 0) = false := by have := cmpN_ge (by omega : y.natAbs ≤ x.natAbs); rw [hC] at this; exact decide_eq_false (by omega)
      have hsd := sum_diff (x := x) (y := y) hdd (by omega)
      rw [HDX.out, HZ.out] at hsd
      have HSUB := Lib.hid (fun X (N1 : NC X (.slice q1 j1 d1) x.natAbs) (N2 : NC X (.slice q2 j2 d2) y.natAbs) => mk_sub (N1.ni' FX.out) (N2.ni' FY.out) (by omega))
      have HMD : Hid (∀ X v, NC X v (x.natAbs - y.natAbs) → _) := fun X v hv => mk_made (w := X) dx (hv.ni' (by have := HF.out; rw [hsd.2] at this; exact this))
      rw [hsd.1] at HMD
      clear hsd hs hdd hC hlt
      go_upto_region 6 with (go_at_call 115; (with_reducible refine HC.out.mono ?_); rintro e w3 ⟨v3, rfl, hb3, rfl⟩; have HB3 := Lib.hid hb3; have m20 : w3.cell? ⟨X2, 0, none⟩ = some (.bool dx) := hb3.cell c20; have m21 : w3.cell? ⟨X2, 1, none⟩ = some (.slice q1 j1 d1) := hb3.cell c21; have m31 : w3.cell? ⟨X3, 1, none⟩ = some (.slice q2 j2 d2) := hb3.cell c31; clear hb3)
      go_wp2_with (first
        | (go_at_call 176; (with_reducible refine (HSUB.out _ (HN1.out.bel HB3.out) (HN2.out.bel HB3.out)).mono ?_); rintro e w5 ⟨v5, rfl, hb5, u5, rfl, hu5⟩; have HB5 := Lib.hid hb5; have HU5 := Lib.hid hu5; have m50 : w5.cell? ⟨X2, 0, none⟩ = some (.bool dx) := hb5.cell m20; clear hb5 hu5)
        | (go_at_call 140; (with_reducible refine (HMD.out _ _ HU5.out).mono ?_); rintro e w6 ⟨v6, rfl, hb6, hv6⟩; obtain ⟨q, kq, cq, rfl, -⟩ := hv6.slice; have HB6 := Lib.hid (HB3.out.trans (HB5.out.trans hb6)); have HV6 := Lib.hid hv6; clear hv6 hb6; have hhX4 := (HB6.out).heap HX4.out; have HHX4 := Lib.hid hhX4; have dX40 : w6.cell? ⟨X4, 0, none⟩ = some (.bool false) := (heap_cell hhX4 0).trans rfl; have fX40 : w6.frozen? ⟨X4, 0, none⟩ = false := heap_frozen hhX4 0; have dX41 : w6.cell? ⟨X4, 1, none⟩ = some (.slice none 0 0) := (heap_cell hhX4 1).trans rfl; have fX41 : w6.frozen? ⟨X4, 1, none⟩ = false := heap_frozen hhX4 1; clear hhX4))
      obtain ⟨kb, kp, kh⟩ := finAll (vs := [.bool (decide (z < 0)), .slice q kq cq]) (HBW.out.trans HB6.out) HHX4.out rfl HGEX4.out (Φ := fun W2 => ZC W2 (.agg #[.bool (decide (z < 0)), .slice q kq cq]) z) (fun W2 ho => HV6.out.only ho HHX4.out (noInt_int _ _ _ _))
      have kk0 : (setAll w6 X4 0 [.bool (decide (z < 0)), .slice q kq cq]).cell? ⟨X4, 0, none⟩ = some (.bool (decide (z < 0))) := (heap_cell kh 0).trans rfl
      have kk1 : (setAll w6 X4 0 [.bool (decide (z < 0)), .slice q kq cq]).cell? ⟨X4, 1, none⟩ = some (.slice q kq cq) := (heap_cell kh 1).trans rfl
      simp only [setAll] at kb kp kk0 kk1
      exact bodyPost_ret (v := .agg #[.bool (decide (z < 0)), .slice q kq cq]) (by simp [results, Tryz.results136, go_sem, kk0, kk1]) rfl ⟨_, rfl, kb, kp⟩
set_option maxHeartbeats 1000000 in
set_option maxRecDepth 100000 in
theorem mk_zsub {w : World} {a b : Value} {x y : Int} (ha : ZI w a x) (hb : ZI w b y) (hf : Fit (x - y).natAbs) : Calls Tryz.prog 139 #[a, b] w (Makes w fun v w' => ZC w' v (x - y)) := by
  obtain ⟨s1, p1, k1, c1, m, rfl, hm, hx⟩ := ha.slice
  obtain ⟨s2, p2, k2, c2, n, rfl, hn, hy⟩ := hb.slice
  have FY : Fit (-y).natAbs := by rw [Int.natAbs_neg]; exact hb.fit
  have HB := Lib.hid (fun X (hX : Bel w X) => mk_zneg (hb.bel hX))
  have HA : Hid (∀ X (hX : Bel w X) v, ZC X v (-y) → _) := fun X hX v hv => mk_zadd (ha.bel hX) (hv.zi FY) (by rw [← Int.sub_eq_add_neg]; exact hf)
  rw [← Int.sub_eq_add_neg] at HA
  obtain ⟨z, hz⟩ : ∃ y', x - y = y' := ⟨_, rfl⟩
  obtain ⟨y', hy'⟩ : ∃ y', -y = y' := ⟨_, rfl⟩
  rw [hz] at HA ⊢
  rw [hy'] at HA HB
  clear hm hn ha hb hx hy hz hy' hf FY
  go_enter Tryz.func139, Tryz.ntmps139
  go_upto_region 1 with fail
  obtain ⟨hX2, hX3, hX4, hbw⟩ := boxes3 w (.cells #[.bool s1, .slice p1 k1 c1] 24) (.cells #[.bool s2, .slice p2 k2 c2] 24) (.cells #[.bool false, .slice none 0 0] 24)
  obtain ⟨W, hW⟩ : ∃ W, ((w.alloc (.cells #[.bool s1, .slice p1 k1 c1] 24)).alloc (.cells #[.bool s2, .slice p2 k2 c2] 24)).alloc (.cells #[.bool false, .slice none 0 0] 24) = W := ⟨_, rfl⟩
  rw [hW] at hX2 hX3 hX4 hbw ⊢
  obtain ⟨X2, eX2⟩ : ∃ X, w.heap.size = X := ⟨_, rfl⟩
  obtain ⟨X3, eX3⟩ : ∃ X, X2 + 1 = X := ⟨_, rfl⟩
  obtain ⟨X4, eX4⟩ : ∃ X, X3 + 1 = X := ⟨_, rfl⟩
  rw [eX2, eX3, eX4]
  rw [eX2] at hX2 hX3 hX4
  rw [eX3] at hX3 hX4
  rw [eX4] at hX4
  have HX2 := Lib.hid hX2
  have HX3 := Lib.hid hX3
  have HX4 := Lib.hid hX4
  have HBW := Lib.hid hbw
  have HGEX2 : Hid (w.heap.size ≤ X2) := by unfold Hid; omega
  have HGEX3 : Hid (w.heap.size ≤ X3) := by unfold Hid; omega
  have HGEX4 : Hid (w.heap.size ≤ X4) := by unfold Hid; omega
  have HLT : Hid (X2 < X3 ∧ X3 < X4) := by unfold Hid; omega
  clear hW hbw hX2 hX3 hX4 eX2 eX3 eX4
  refine region_flow 4 [[], [], [1], [0, 2]] [.is (.agg #[.bool s1, .slice p1 k1 c1]), .is (.agg #[.bool s2, .slice p2 k2 c2]), .has (fun v w => ZC w v y'), .has (fun v w => ZC w v z)] (by kernel_rfl) (by kernel_rfl) rfl (by simp only [Steady]; exact ⟨fun _ _ _ h hb => h.bel hb, fun _ _ _ h hb => h.bel hb, trivial⟩) ?_
  simp only [List.take_succ_cons, List.take_zero, List.drop_succ_cons, List.drop_zero]
  refine fV (by rfl) (by intro w1 hw1 hk1; obtain ⟨c0, c1⟩ := boxc2 (hw1.heap HX2.out); go_simp) ?_
  simp only [Act.put, sA, sB, sC]
  refine fV (by rfl) (by intro w1 hw1 hk1; obtain ⟨c0, c1⟩ := boxc2 (hw1.heap HX3.out); go_simp) ?_
  simp only [Act.put, sA, sB, sC]
  refine fH (by rfl) (by intro w1 hw1 hk1; exact HB.out _ (HBW.out.trans hw1)) (by intro; go_simp) (fun v2 => ?_)
  simp only [Act.put, sA, sB, sC]
  refine fH (by rfl) (by intro w1 hw1 hk1; obtain ⟨g2, -⟩ := hk1; exact HA.out _ (HBW.out.trans hw1) _ g2) (by intro; go_simp) (fun v3 => ?_)
  simp only [Act.put, sA, sB, sC]
  intro w1 hw1 hk1
  obtain ⟨g3, g2, -⟩ := hk1
  obtain ⟨q, kq, cq, rfl, -⟩ := g3.slice
  have HB3 := Lib.hid hw1
  have HV3 := Lib.hid g3
  have hhX4 := (hw1).heap HX4.out
  have HHX4 := Lib.hid hhX4
  have dX40 : w1.cell? ⟨X4, 0, none⟩ = some (.bool false) := (heap_cell hhX4 0).trans rfl
  have fX40 : w1.frozen? ⟨X4, 0, none⟩ = false := heap_frozen hhX4 0
  have dX41 : w1.cell? ⟨X4, 1, none⟩ = some (.slice none 0 0) := (heap_cell hhX4 1).trans rfl
  have fX41 : w1.frozen? ⟨X4, 1, none⟩ = false := heap_frozen hhX4 1
  clear hhX4
  clear hw1 g3 g2
  go_wp2
  obtain ⟨kb, kp, kh⟩ := finAll (vs := [.bool (decide (z < 0)), .slice q kq cq]) (HBW.out.trans HB3.out) HHX4.out rfl HGEX4.out (Φ := fun W2 => ZC W2 (.agg #[.bool (decide (z < 0)), .slice q kq cq]) z) (fun W2 ho => HV3.out.only ho HHX4.out (noInt_int _ _ _ _))
  have kk0 : (setAll w1 X4 0 [.bool (decide (z < 0)), .slice q kq cq]).cell? ⟨X4, 0, none⟩ = some (.bool (decide (z < 0))) := (heap_cell kh 0).trans rfl
  have kk1 : (setAll w1 X4 0 [.bool (decide (z < 0)), .slice q kq cq]).cell? ⟨X4, 1, none⟩ = some (.slice q kq cq) := (heap_cell kh 1).trans rfl
  simp only [setAll] at kb kp kk0 kk1
  exact bodyPost_ret (v := .agg #[.bool (decide (z < 0)), .slice q kq cq]) (by simp [results, Tryz.results139, go_sem, kk0, kk1]) rfl ⟨_, rfl, kb, kp⟩
end Go.Proofs.YtafmfnpjhhaikaaGreatDoor
