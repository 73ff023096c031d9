/-
  The walk of the pen's seg.
-/
import Derived.Test.YtefajplbgmikdaaDoorCmj8
namespace Go.Proofs.YtefajplbgmikdaaDoor
open Go.RowKit

theorem bad8 {w wm : World} {x : Part} {nv : Value} {cs : List Value} (h : Sb w wm x nv cs) (cr : Array Value) (a0 a1 a2 a3 a4 a5 a6 a7 : Value) :
    ∀ W8, W8 = (((((((((wm.alloc (.cells cr 116)).setCell ⟨w.heap.size + 1, 0, none⟩ (a0)).setCell ⟨w.heap.size + 1, 1, none⟩ (a1)).setCell ⟨w.heap.size + 1, 2, none⟩ (a2)).setCell ⟨w.heap.size + 1, 3, none⟩ (a3)).setCell ⟨w.heap.size + 1, 4, none⟩ (a4)).setCell ⟨w.heap.size + 1, 5, none⟩ (a5)).setCell ⟨w.heap.size + 1, 6, none⟩ (a6)).setCell ⟨w.heap.size + 1, 7, none⟩ (a7)).drew → Bel w W8 ∧ W8.heap[w.heap.size + 1]? = some (.cells #[a0, a1, a2, a3, a4, a5, a6, a7] 36 (0, 0)) ∧ W8.heap[wm.heap.size]? = some (.cells cr 116 (0, 0)) := by
  rintro _ rfl
  have hb := h.bel.alloc (.cells cr 116)
  have hr := (h.on ((Bel.refl wm).alloc (.cells cr 116))).res
  have hn := heap_alloc_new wm (.cells cr 116)
  have hlt : w.heap.size + 1 < wm.heap.size := by have := h.size; omega
  have hf := (heap_set (heap_set (heap_set (heap_set (heap_set (heap_set (heap_set (heap_set hr 0 a0) 1 a1) 2 a2) 3 a3) 4 a4) 5 a5) 6 a6) 7 a7)
  simp only [List.setIfInBounds_toArray, List.set_cons_succ, List.set_cons_zero] at hf
  have hd : ∀ V : World, V.drew.heap = V.heap := fun _ => rfl
  refine ⟨Bel.drew ((Bel.set (Bel.set (Bel.set (Bel.set (Bel.set (Bel.set (Bel.set (Bel.set hb (p := ⟨w.heap.size + 1, 0, none⟩) (by simp) a0) (p := ⟨w.heap.size + 1, 1, none⟩) (by simp) a1) (p := ⟨w.heap.size + 1, 2, none⟩) (by simp) a2) (p := ⟨w.heap.size + 1, 3, none⟩) (by simp) a3) (p := ⟨w.heap.size + 1, 4, none⟩) (by simp) a4) (p := ⟨w.heap.size + 1, 5, none⟩) (by simp) a5) (p := ⟨w.heap.size + 1, 6, none⟩) (by simp) a6) (p := ⟨w.heap.size + 1, 7, none⟩) (by simp) a7)), by rw [hd]; exact hf, ?_⟩
  have ho : ∀ (V : World) (j : Nat) (u : Value), (V.setCell ⟨w.heap.size + 1, j, none⟩ u).heap[wm.heap.size]? = V.heap[wm.heap.size]? := fun V j u => Below.heap_setCell _ _ _ _ (by simp; omega)
  rw [hd, ho, ho, ho, ho, ho, ho, ho, ho]
  exact hn

theorem fin8 {w wm : World} (hr : wm.heap[w.heap.size + 1]? = some (.cells #[.int .i64 0, .int .i64 0, .int .i64 0, .int .i64 0, .int .i64 0, .int .i64 0, .int .i64 0, .int .i64 0] 36 (0, 0))) (a0 a1 a2 a3 a4 a5 a6 a7 : Value) (q : Nat) (hq : q < w.heap.size) :
    ∀ W8, W8 = ((((((((wm.setCell ⟨w.heap.size + 1, 0, none⟩ (a0)).setCell ⟨w.heap.size + 1, 1, none⟩ (a1)).setCell ⟨w.heap.size + 1, 2, none⟩ (a2)).setCell ⟨w.heap.size + 1, 3, none⟩ (a3)).setCell ⟨w.heap.size + 1, 4, none⟩ (a4)).setCell ⟨w.heap.size + 1, 5, none⟩ (a5)).setCell ⟨w.heap.size + 1, 6, none⟩ (a6)).setCell ⟨w.heap.size + 1, 7, none⟩ (a7)) → Below q wm W8 ∧ KeepBut (w.heap.size + 1) wm W8 ∧ W8.heap[w.heap.size + 1]? = some (.cells #[a0, a1, a2, a3, a4, a5, a6, a7] 36 (0, 0)) := by
  rintro _ rfl
  have hf := (heap_set (heap_set (heap_set (heap_set (heap_set (heap_set (heap_set (heap_set hr 0 a0) 1 a1) 2 a2) 3 a3) 4 a4) 5 a5) 6 a6) 7 a7)
  simp only [List.setIfInBounds_toArray, List.set_cons_succ, List.set_cons_zero] at hf
  refine ⟨(Below.setCell (Below.setCell (Below.setCell (Below.setCell (Below.setCell (Below.setCell (Below.setCell (Below.setCell (Below.refl q wm) (p := ⟨w.heap.size + 1, 0, none⟩) (by simp; omega) a0) (p := ⟨w.heap.size + 1, 1, none⟩) (by simp; omega) a1) (p := ⟨w.heap.size + 1, 2, none⟩) (by simp; omega) a2) (p := ⟨w.heap.size + 1, 3, none⟩) (by simp; omega) a3) (p := ⟨w.heap.size + 1, 4, none⟩) (by simp; omega) a4) (p := ⟨w.heap.size + 1, 5, none⟩) (by simp; omega) a5) (p := ⟨w.heap.size + 1, 6, none⟩) (by simp; omega) a6) (p := ⟨w.heap.size + 1, 7, none⟩) (by simp; omega) a7), fun k hk hkr => ?_, hf⟩
  have ho : ∀ (V : World) (j : Nat) (u : Value), (V.setCell ⟨w.heap.size + 1, j, none⟩ u).heap[k]? = V.heap[k]? := fun V j u => Below.heap_setCell _ _ _ _ (by simpa using hkr)
  rw [ho, ho, ho, ho, ho, ho, ho, ho]

theorem bad8s {w wm : World} {x : Part} {nv : Value} {cs : List Value} (h : Sb w wm x nv cs) (cr : Array Value) (a0 a1 a2 a3 a4 a5 a6 a7 : Value) :
    ∀ W8, W8 = (((((((((wm.setCell ⟨w.heap.size + 1, 0, none⟩ (a0)).setCell ⟨w.heap.size + 1, 1, none⟩ (a1)).setCell ⟨w.heap.size + 1, 2, none⟩ (a2)).setCell ⟨w.heap.size + 1, 3, none⟩ (a3)).setCell ⟨w.heap.size + 1, 4, none⟩ (a4)).setCell ⟨w.heap.size + 1, 5, none⟩ (a5)).setCell ⟨w.heap.size + 1, 6, none⟩ (a6)).setCell ⟨w.heap.size + 1, 7, none⟩ (a7)).alloc (.cells cr 116)).drew → Bel w W8 ∧ W8.heap[w.heap.size + 1]? = some (.cells #[a0, a1, a2, a3, a4, a5, a6, a7] 36 (0, 0)) ∧ W8.heap[wm.heap.size]? = some (.cells cr 116 (0, 0)) := by
  rintro _ rfl
  have hr := h.res
  have hf := (heap_set (heap_set (heap_set (heap_set (heap_set (heap_set (heap_set (heap_set hr 0 a0) 1 a1) 2 a2) 3 a3) 4 a4) 5 a5) 6 a6) 7 a7)
  simp only [List.setIfInBounds_toArray, List.set_cons_succ, List.set_cons_zero] at hf
  have hd : ∀ V : World, V.drew.heap = V.heap := fun _ => rfl
  have hz : ∀ (V : World) (p : Addr) (u : Value), (V.setCell p u).heap.size = V.heap.size := fun V p u => by simp [World.setCell]
  refine ⟨Bel.drew (Bel.alloc (Bel.set (Bel.set (Bel.set (Bel.set (Bel.set (Bel.set (Bel.set (Bel.set h.bel (p := ⟨w.heap.size + 1, 0, none⟩) (by simp) a0) (p := ⟨w.heap.size + 1, 1, none⟩) (by simp) a1) (p := ⟨w.heap.size + 1, 2, none⟩) (by simp) a2) (p := ⟨w.heap.size + 1, 3, none⟩) (by simp) a3) (p := ⟨w.heap.size + 1, 4, none⟩) (by simp) a4) (p := ⟨w.heap.size + 1, 5, none⟩) (by simp) a5) (p := ⟨w.heap.size + 1, 6, none⟩) (by simp) a6) (p := ⟨w.heap.size + 1, 7, none⟩) (by simp) a7) _), by rw [hd]; exact heap_push_of hf _, ?_⟩
  have hn := heap_alloc_new ((((((((wm.setCell ⟨w.heap.size + 1, 0, none⟩ (a0)).setCell ⟨w.heap.size + 1, 1, none⟩ (a1)).setCell ⟨w.heap.size + 1, 2, none⟩ (a2)).setCell ⟨w.heap.size + 1, 3, none⟩ (a3)).setCell ⟨w.heap.size + 1, 4, none⟩ (a4)).setCell ⟨w.heap.size + 1, 5, none⟩ (a5)).setCell ⟨w.heap.size + 1, 6, none⟩ (a6)).setCell ⟨w.heap.size + 1, 7, none⟩ (a7)) (.cells cr 116)
  rw [hz, hz, hz, hz, hz, hz, hz, hz] at hn
  rw [hd]
  exact hn

theorem Sb.setW {w V : World} {x : Part} {nv a0 a1 a2 a3 a4 a5 a6 a7 : Value} (h : Sb w V x nv [a0, a1, a2, a3, a4, a5, a6, a7]) (u : Value) : Sb w (V.setCell ⟨w.heap.size + 1 + 1, 7, none⟩ u) x nv [a0, a1, a2, a3, a4, a5, a6, u] := by
  refine ⟨Bel.set h.bel (by show _ ≤ w.heap.size + 1 + 1; omega) _, (Below.heap_setCell _ _ _ _ (by show _ ≠ w.heap.size + 1 + 1; omega)).trans h.part, (Below.heap_setCell _ _ _ _ (by show _ ≠ w.heap.size + 1 + 1; omega)).trans h.res, ?_⟩
  have hf := heap_set h.seg 7 u
  simp only [List.setIfInBounds_toArray, List.set_cons_succ, List.set_cons_zero] at hf
  exact hf

def finS (p : Pen) (x : Part) (W : Int) (l : List Int) : Sg × Pen :=
  (⟨x.r.kind, lineV p x l ++ List.replicate (6 - (lineV p x l).length) 0, W⟩, moveS p ⟨x.r.kind, lineV p x l ++ List.replicate (6 - (lineV p x l).length) 0, W⟩ (lineV p x l).length)
theorem seg_form {p : Pen} {x : Part} {pr : List Int} {W : Int} {ns : List Tok} (h1 : preS p x = .ok pr) (h2 : weightS x = .ok (W, ns)) : segS p x = (match absL p x ns 0 with | .error e => .error e | .ok vs => .ok (finS p x W (pr ++ vs))) := by
  unfold segS
  rw [h1]
  simp only
  rw [h2]
  rfl
theorem weight_sub {x : Part} {W : Int} {ns : List Tok} (h : weightS x = .ok (W, ns)) : ns.length ≤ x.nums.length ∧ ∀ t ∈ ns, t ∈ x.nums := by
  unfold weightS at h
  split at h
  · split at h
    · cases h
    · rename_i t r he
      split at h
      · cases h
      · simp only [Except.ok.injEq, Prod.mk.injEq] at h
        obtain ⟨_, rfl⟩ := h
        rw [he]
        exact ⟨by simp, fun t ht => List.mem_cons_of_mem _ ht⟩
  · simp only [Except.ok.injEq, Prod.mk.injEq] at h
    obtain ⟨_, rfl⟩ := h
    exact ⟨Nat.le_refl _, fun t ht => ht⟩
theorem pre_len {p : Pen} {x : Part} {pr : List Int} (h : preS p x = .ok pr) : pr.length ≤ 2 := by
  unfold preS at h
  split at h
  · split at h
    · simp only [Except.ok.injEq] at h
      subst h
      simp
    · cases h
  · simp only [Except.ok.injEq] at h
    subst h
    simp
/-- The cells of one token. -/
theorem TokRow.at {w : World} {N : Nat} {lv : Value} {l : List Tok} (h : TokRow w N lv l) {k : Nat} {t : Tok} (hk : l[k]? = some t) : ∃ b o c, lv = .slice (some ⟨b, o, none⟩) l.length c ∧ l.length ≤ c ∧ b < N ∧
    (w.cell? ⟨b, o + k * 4, none⟩ = some (.int .i64 t.kind) ∧ w.cell? ⟨b, o + k * 4 + 1, none⟩ = some (.string ⟨t.s.toArray⟩) ∧ w.cell? ⟨b, o + k * 4 + 2, none⟩ = some (.int .i64 t.n) ∧ w.cell? ⟨b, o + k * 4 + 3, none⟩ = some (.int .i64 t.place)) := by
  obtain ⟨p, c, rfl, hl, h⟩ := h
  rcases h with rfl | ⟨b, o, rfl, hlt, hc⟩
  · simp at hk
  · have := hc k t hk
    exact ⟨b, o, c, rfl, hl, hlt, this 0 _ rfl, this 1 _ rfl, this 2 _ rfl, this 3 _ rfl⟩

def preE (dn : List Int) : Except Int (List Int) → Except Int (List Int)
  | .ok l => .ok (dn ++ l)
  | .error e => .error e
theorem preE_nil (R : Except Int (List Int)) : preE [] R = R := by cases R <;> rfl
theorem preE_step {p : Pen} {x : Part} {ns : List Tok} {k : Nat} {t : Tok} {dn : List Int} (hk : ns[k]? = some t) : preE dn (absL p x (ns.drop k) k) = if inR (absN p x k t) = true then preE (dn ++ [absN p x k t]) (absL p x (ns.drop (k + 1)) (k + 1)) else .error t.place := by
  obtain ⟨hlt, he⟩ := List.getElem?_eq_some_iff.1 hk
  rw [List.drop_eq_getElem_cons hlt, he, absL]
  split
  · cases absL p x (ns.drop (k + 1)) (k + 1) <;> simp [preE]
  · rfl

theorem infoInt64 : (Tryd.prog.info? 2).map (fun i => (i.zero, i.size, i.bytes)) = some (some (.int .i64 0), 1, 8) := by kernel_rfl
theorem VRow.first {w : World} {base : Nat} {v : Value} {a : Int} {l : List Int} (h : VRow w base v (a :: l)) : ∃ g cap, v = .slice (some ⟨g, 0, none⟩) (l.length + 1) cap ∧ base ≤ g ∧ w.cell? ⟨g, 0, none⟩ = some (.int .i64 a) := by
  obtain ⟨_, h | ⟨g, cap, cur, rfl, hb, hg, hn, _, _, ht⟩⟩ := h
  · cases h.2
  · refine ⟨g, cap, rfl, hb, ?_⟩
    rw [heap_cell hg, ← Array.getElem?_toList]
    have := congrArg (fun l => l[0]?) ht
    simpa [List.getElem?_take] using this
theorem one_num {nm ct kn : Nat} {sm : Bool} {pl : Int} {ns ns' : List Tok} {W : Int} (hx : PartOk TkOk ⟨⟨nm, ct, kn⟩, sm, pl, ns⟩) (h : weightS ⟨⟨nm, ct, kn⟩, sm, pl, ns⟩ = .ok (W, ns')) (hn : nm = 72 ∨ nm = 86) : 1 ≤ ns'.length := by
  have hc : ∀ y ∈ rulesL, (y.name = 72 ∨ y.name = 86) → y.count = 1 ∧ y.kind ≠ 5 := by decide
  have := hc _ hx.1 hn
  have hl := hx.2.1
  unfold weightS at h
  rw [if_neg this.2] at h
  simp only [Except.ok.injEq, Prod.mk.injEq] at h
  obtain ⟨_, rfl⟩ := h
  dsimp only at hl this
  omega

theorem infoInt64s : (Tryd.prog.info? 2).map (·.size) = some 1 := by kernel_rfl
theorem VRow.shape {w : World} {base : Nat} {v : Value} {l : List Int} (h : VRow w base v l) : ∃ sp cap, v = .slice sp l.length cap ∧ (0 < l.length → ∃ ad, sp = some ad ∧ ∀ j u, (l.map (Value.int .i64))[j]? = some u → w.cell? (ad.add j) = some u) := by
  obtain ⟨hlen, h | ⟨g, cap, cur, rfl, hb, hg, hn, _, hcur, ht⟩⟩ := h
  · exact ⟨none, 0, by rw [h.1, h.2], fun hp => by omega⟩
  · refine ⟨_, cap, rfl, fun _ => ⟨_, rfl, fun j u hj => ?_⟩⟩
    rw [Addr.add_lit, Nat.zero_add, heap_cell hg, ← Array.getElem?_toList]
    rw [← ht, List.getElem?_take] at hj
    split at hj
    · exact hj
    · cases hj
theorem splice_sg (a b : Value) {F : List Int} {v0 v1 v2 v3 v4 v5 : Int} (hF : F.length ≤ 6) (h : F ++ List.replicate (6 - F.length) 0 = [v0, v1, v2, v3, v4, v5]) :
    splice [a, .int .i64 0, .int .i64 0, .int .i64 0, .int .i64 0, .int .i64 0, .int .i64 0, b] 1 (F.map (Value.int .i64)) = [a, .int .i64 v0, .int .i64 v1, .int .i64 v2, .int .i64 v3, .int .i64 v4, .int .i64 v5, b] := by
  have hm := congrArg (List.map (Value.int .i64)) h
  rw [List.map_append, List.map_replicate] at hm
  have hd : ∀ n ≤ 6, [a, .int .i64 0, .int .i64 0, .int .i64 0, .int .i64 0, .int .i64 0, .int .i64 0, b].drop (1 + n) = List.replicate (6 - n) (.int .i64 0) ++ [b] := by
    intro n hn
    have : n = 0 ∨ n = 1 ∨ n = 2 ∨ n = 3 ∨ n = 4 ∨ n = 5 ∨ n = 6 := by omega
    rcases this with rfl | rfl | rfl | rfl | rfl | rfl | rfl <;> rfl
  unfold splice
  rw [List.length_map, hd _ hF, ← List.append_assoc (F.map _), hm]
  rfl
theorem fin_len {p : Pen} {x : Part} {pr : List Int} {W : Int} {ns : List Tok} {dn : List Int} (hx : PartOk TkOk x) (h1 : preS p x = .ok pr) (h2 : weightS x = .ok (W, ns)) (hd : dn.length = ns.length) : (lineV p x (pr ++ dn)).length = countK x.r.kind := by
  have hpr : pr.length = (if x.r.name = 83 ∨ x.r.name = 84 then 2 else 0) := by
    unfold preS at h1
    split at h1
    · rename_i hn
      split at h1
      · simp only [Except.ok.injEq] at h1
        rw [if_pos hn, ← h1]
        rfl
      · cases h1
    · rename_i hn
      simp only [Except.ok.injEq] at h1
      rw [if_neg hn, ← h1]
      rfl
  have hw : ns.length = (if x.r.kind = 5 then x.r.count - 1 else x.r.count) := by
    have hl := hx.2.1
    unfold weightS at h2
    split at h2
    · rename_i hk
      rw [if_pos hk]
      split at h2
      · cases h2
      · rename_i t r he
        split at h2
        · cases h2
        · simp only [Except.ok.injEq, Prod.mk.injEq] at h2
          rw [he] at hl
          rw [← h2.2]
          simp at hl
          omega
    · rename_i hk
      rw [if_neg hk]
      simp only [Except.ok.injEq, Prod.mk.injEq] at h2
      rw [← h2.2]
      exact hl
  have hl0 : (pr ++ dn).length = (if x.r.name = 83 ∨ x.r.name = 84 then 2 else 0) + (if x.r.kind = 5 then x.r.count - 1 else x.r.count) := by
    rw [List.length_append, hpr, hd, hw]
  have hcase : ∀ r ∈ rulesL, ((if r.name = 72 then 2 else if r.name = 86 then 2 else (if r.name = 83 ∨ r.name = 84 then 2 else 0) + (if r.kind = 5 then r.count - 1 else r.count)) = countK r.kind) := by decide
  rw [← hcase _ hx.1]
  unfold lineV
  split
  · rfl
  · split
    · rfl
    · exact hl0

set_option maxHeartbeats 4000000 in
set_option maxRecDepth 100000 in
theorem seg_any (p : Pen) (hp : PenOk p) (x : Part) (hx : PartOk TkOk x) (nv : Value) (q : Nat) (w : World) (h : Pn w q p) (hn : TokRow w w.heap.size nv x.nums) :
    Calls Tryd.prog 63 #[.pointer (some ⟨q, 0, none⟩), .agg (partC (x, nv)).toArray] w (SegPost p q w (segS p x)) := by
  obtain ⟨⟨nm, ct, kn⟩, sm, pl, ns⟩ := x
  have HP := Lib.hid hp
  have HX := Lib.hid hx
  have HPN := Lib.hid h
  have HN := Lib.hid hn
  obtain ⟨np, nc, hnv, _⟩ := hn
  dsimp only at hnv
  have HS := Lib.hid (seg_zero w (⟨⟨nm, ct, kn⟩, sm, pl, ns⟩ : Part) nv [.int .i64 kn, .int .i64 0, .int .i64 0, .int .i64 0, .int .i64 0, .int .i64 0, .int .i64 0, .int .i64 0])
  have HQ : Hid (q < w.heap.size) := heap_lt h
  subst hnv
  clear hp hx h
  simp only [partC] at HS ⊢
  go_enter Tryd.func63, Tryd.ntmps63
  go_upto_block 0 with fail
  generalize (((w.alloc (.cells #[.int .u8 nm, .int .i64 ct, .int .i64 kn, .bool sm, .int .i64 pl, .slice np ns.length nc] 123)).alloc (.cells #[.int .i64 0, .int .i64 0, .int .i64 0, .int .i64 0, .int .i64 0, .int .i64 0, .int .i64 0, .int .i64 0] 36)).alloc (.cells #[.int .i64 kn, .int .i64 0, .int .i64 0, .int .i64 0, .int .i64 0, .int .i64 0, .int .i64 0, .int .i64 0] 36)) = V at HS ⊢
  go_cut [7] from 22 to 48 (fun s7 wx => ∃ pr, preS p (⟨⟨nm, ct, kn⟩, sm, pl, ns⟩ : Part) = .ok pr ∧ VRow wx (w.heap.size + 3) s7 pr ∧ Sb w wx (⟨⟨nm, ct, kn⟩, sm, pl, ns⟩ : Part) (.slice np ns.length nc) [.int .i64 kn, .int .i64 0, .int .i64 0, .int .i64 0, .int .i64 0, .int .i64 0, .int .i64 0, .int .i64 0])
  case first =>
    have hmir := mirrored_any p HP.out kn q V (HS.out.bel.heap HPN.out)
    obtain ⟨x0, x1, x2, x3, x4, x5⟩ := HS.out.x
    dsimp only at x0 x1 x2 x3 x4 x5
    by_cases hst : nm = 83 ∨ nm = 84
    · obtain ⟨m1, m2, hm⟩ : ∃ m1 m2, mirrorS p kn = (m1, m2) := ⟨_, _, rfl⟩
      rw [hm] at hmir
      dsimp only at hmir
      have HPRE : Hid (preS p (⟨⟨nm, ct, kn⟩, sm, pl, ns⟩ : Part) = if inR m1 = true ∧ inR m2 = true then .ok [m1, m2] else .error pl) := by
        unfold Hid preS
        rw [if_pos hst]
        dsimp only
        rw [hm]
      have HMIR := Lib.hid hmir
      clear hmir hm
      rcases hst with hst | hst
      · have f83 : ((nm : Int) == 83) = true := by simp; omega
        clear hst
        by_cases i1 : inR m1 = true
        · by_cases i2 : inR m2 = true
          · go_wp2_with (first
                | (go_at_call 81; (with_reducible refine (HMIR.out).mono ?_); rintro e wm ⟨rfl, hbm⟩; have HSM := Lib.hid (HS.out.on hbm); clear hbm; (obtain ⟨x0, x1, x2, x3, x4, x5⟩ := HSM.out.x); dsimp only at x0 x1 x2 x3 x4 x5)
                | (go_at_call 58; (with_reducible refine (in_any _ _).mono ?_); rintro e w2 ⟨rfl, rfl⟩))
            go_meet
            exact ⟨[m1, m2], by rw [HPRE.out, if_pos ⟨i1, i2⟩], VRow.two (heap_alloc_new _ _) (by have := HSM.out.size; omega), HSM.out.on ((Bel.refl wm).alloc _)⟩
          · have i2' : inR m2 = false := by simpa using i2
            clear i2
            go_wp2_with (first
                | (go_at_call 81; (with_reducible refine (HMIR.out).mono ?_); rintro e wm ⟨rfl, hbm⟩; have HSM := Lib.hid (HS.out.on hbm); clear hbm; (obtain ⟨x0, x1, x2, x3, x4, x5⟩ := HSM.out.x); dsimp only at x0 x1 x2 x3 x4 x5)
                | (go_at_call 58; (with_reducible refine (in_any _ _).mono ?_); rintro e w2 ⟨rfl, rfl⟩))
            have HA := fun o => HSM.out.on ((Bel.refl wm).alloc o)
            have r1 := fun o => (HA o).r.1
            have rf := fun o => (HA o).r.2
            have r0 := HSM.out.r.1
            have rf0 := HSM.out.r.2
            have s1 := fun o => (HA o).s.1
            have s0 := HSM.out.s.1
            clear HA
            go_region
            · have hb8 := bad8s HSM.out #[.int .i64 (pl), .int .i64 21] (.int .i64 kn) (.int .i64 0) (.int .i64 0) (.int .i64 0) (.int .i64 0) (.int .i64 0) (.int .i64 0) (.int .i64 0) _ rfl
              clear r1 rf r0 rf0 s1 s0
              generalize (((((((((wm.setCell ⟨w.heap.size + 1, 0, none⟩ (.int .i64 kn)).setCell ⟨w.heap.size + 1, 1, none⟩ (.int .i64 0)).setCell ⟨w.heap.size + 1, 2, none⟩ (.int .i64 0)).setCell ⟨w.heap.size + 1, 3, none⟩ (.int .i64 0)).setCell ⟨w.heap.size + 1, 4, none⟩ (.int .i64 0)).setCell ⟨w.heap.size + 1, 5, none⟩ (.int .i64 0)).setCell ⟨w.heap.size + 1, 6, none⟩ (.int .i64 0)).setCell ⟨w.heap.size + 1, 7, none⟩ (.int .i64 0)).alloc (.cells #[.int .i64 (pl), .int .i64 21] 116)).drew = W8 at hb8 ⊢
              obtain ⟨hbel8, hres8, hw8⟩ := hb8
              have HE : Hid (SegPost p q w (segS p (⟨⟨nm, ct, kn⟩, sm, pl, ns⟩ : Part)) (.returned (.tuple #[.agg #[.int .i64 kn, .int .i64 0, .int .i64 0, .int .i64 0, .int .i64 0, .int .i64 0, .int .i64 0, .int .i64 0], .pointer (some ⟨wm.heap.size, 0, none⟩)])) W8) := seg_bad hbel8 HQ.out (by unfold segS; rw [HPRE.out, if_neg (by rw [i2']; simp)]) hw8
              have rr0 : W8.cell? ⟨w.heap.size + 1, 0, none⟩ = some (.int .i64 kn) := by rw [heap_cell hres8]; rfl
              have rr1 : W8.cell? ⟨w.heap.size + 1, 1, none⟩ = some (.int .i64 0) := by rw [heap_cell hres8]; rfl
              have rr2 : W8.cell? ⟨w.heap.size + 1, 2, none⟩ = some (.int .i64 0) := by rw [heap_cell hres8]; rfl
              have rr3 : W8.cell? ⟨w.heap.size + 1, 3, none⟩ = some (.int .i64 0) := by rw [heap_cell hres8]; rfl
              have rr4 : W8.cell? ⟨w.heap.size + 1, 4, none⟩ = some (.int .i64 0) := by rw [heap_cell hres8]; rfl
              have rr5 : W8.cell? ⟨w.heap.size + 1, 5, none⟩ = some (.int .i64 0) := by rw [heap_cell hres8]; rfl
              have rr6 : W8.cell? ⟨w.heap.size + 1, 6, none⟩ = some (.int .i64 0) := by rw [heap_cell hres8]; rfl
              have rr7 : W8.cell? ⟨w.heap.size + 1, 7, none⟩ = some (.int .i64 0) := by rw [heap_cell hres8]; rfl
              clear hbel8 hres8 hw8
              go_wp2
              (try simp only [Exit.inBlock, Exit.then])
              refine bodyPost_ret (v := .tuple #[.agg #[.int .i64 kn, .int .i64 0, .int .i64 0, .int .i64 0, .int .i64 0, .int .i64 0, .int .i64 0, .int .i64 0], .pointer (some ⟨wm.heap.size, 0, none⟩)]) (by simp [results, Tryd.results63, go_sem, rr0, rr1, rr2, rr3, rr4, rr5, rr6, rr7]) rfl ?_
              exact HE.out
            · have hb8 := bad8 HSM.out #[.int .i64 (pl), .int .i64 21] (.int .i64 kn) (.int .i64 0) (.int .i64 0) (.int .i64 0) (.int .i64 0) (.int .i64 0) (.int .i64 0) (.int .i64 0) _ rfl
              clear r1 rf r0 rf0 s1 s0
              generalize (((((((((wm.alloc (.cells #[.int .i64 (pl), .int .i64 21] 116)).setCell ⟨w.heap.size + 1, 0, none⟩ (.int .i64 kn)).setCell ⟨w.heap.size + 1, 1, none⟩ (.int .i64 0)).setCell ⟨w.heap.size + 1, 2, none⟩ (.int .i64 0)).setCell ⟨w.heap.size + 1, 3, none⟩ (.int .i64 0)).setCell ⟨w.heap.size + 1, 4, none⟩ (.int .i64 0)).setCell ⟨w.heap.size + 1, 5, none⟩ (.int .i64 0)).setCell ⟨w.heap.size + 1, 6, none⟩ (.int .i64 0)).setCell ⟨w.heap.size + 1, 7, none⟩ (.int .i64 0)).drew = W8 at hb8 ⊢
              obtain ⟨hbel8, hres8, hw8⟩ := hb8
              have HE : Hid (SegPost p q w (segS p (⟨⟨nm, ct, kn⟩, sm, pl, ns⟩ : Part)) (.returned (.tuple #[.agg #[.int .i64 kn, .int .i64 0, .int .i64 0, .int .i64 0, .int .i64 0, .int .i64 0, .int .i64 0, .int .i64 0], .pointer (some ⟨wm.heap.size, 0, none⟩)])) W8) := seg_bad hbel8 HQ.out (by unfold segS; rw [HPRE.out, if_neg (by rw [i2']; simp)]) hw8
              have rr0 : W8.cell? ⟨w.heap.size + 1, 0, none⟩ = some (.int .i64 kn) := by rw [heap_cell hres8]; rfl
              have rr1 : W8.cell? ⟨w.heap.size + 1, 1, none⟩ = some (.int .i64 0) := by rw [heap_cell hres8]; rfl
              have rr2 : W8.cell? ⟨w.heap.size + 1, 2, none⟩ = some (.int .i64 0) := by rw [heap_cell hres8]; rfl
              have rr3 : W8.cell? ⟨w.heap.size + 1, 3, none⟩ = some (.int .i64 0) := by rw [heap_cell hres8]; rfl
              have rr4 : W8.cell? ⟨w.heap.size + 1, 4, none⟩ = some (.int .i64 0) := by rw [heap_cell hres8]; rfl
              have rr5 : W8.cell? ⟨w.heap.size + 1, 5, none⟩ = some (.int .i64 0) := by rw [heap_cell hres8]; rfl
              have rr6 : W8.cell? ⟨w.heap.size + 1, 6, none⟩ = some (.int .i64 0) := by rw [heap_cell hres8]; rfl
              have rr7 : W8.cell? ⟨w.heap.size + 1, 7, none⟩ = some (.int .i64 0) := by rw [heap_cell hres8]; rfl
              clear hbel8 hres8 hw8
              go_wp2
              (try simp only [Exit.inBlock, Exit.then])
              refine bodyPost_ret (v := .tuple #[.agg #[.int .i64 kn, .int .i64 0, .int .i64 0, .int .i64 0, .int .i64 0, .int .i64 0, .int .i64 0, .int .i64 0], .pointer (some ⟨wm.heap.size, 0, none⟩)]) (by simp [results, Tryd.results63, go_sem, rr0, rr1, rr2, rr3, rr4, rr5, rr6, rr7]) rfl ?_
              exact HE.out
        · have i1' : inR m1 = false := by simpa using i1
          clear i1
          go_wp2_with (first
                | (go_at_call 81; (with_reducible refine (HMIR.out).mono ?_); rintro e wm ⟨rfl, hbm⟩; have HSM := Lib.hid (HS.out.on hbm); clear hbm; (obtain ⟨x0, x1, x2, x3, x4, x5⟩ := HSM.out.x); dsimp only at x0 x1 x2 x3 x4 x5)
                | (go_at_call 58; (with_reducible refine (in_any _ _).mono ?_); rintro e w2 ⟨rfl, rfl⟩))
          have HA := fun o => HSM.out.on ((Bel.refl wm).alloc o)
          have r1 := fun o => (HA o).r.1
          have rf := fun o => (HA o).r.2
          have r0 := HSM.out.r.1
          have rf0 := HSM.out.r.2
          have s1 := fun o => (HA o).s.1
          have s0 := HSM.out.s.1
          clear HA
          go_region
          · have hb8 := bad8s HSM.out #[.int .i64 (pl), .int .i64 21] (.int .i64 kn) (.int .i64 0) (.int .i64 0) (.int .i64 0) (.int .i64 0) (.int .i64 0) (.int .i64 0) (.int .i64 0) _ rfl
            clear r1 rf r0 rf0 s1 s0
            generalize (((((((((wm.setCell ⟨w.heap.size + 1, 0, none⟩ (.int .i64 kn)).setCell ⟨w.heap.size + 1, 1, none⟩ (.int .i64 0)).setCell ⟨w.heap.size + 1, 2, none⟩ (.int .i64 0)).setCell ⟨w.heap.size + 1, 3, none⟩ (.int .i64 0)).setCell ⟨w.heap.size + 1, 4, none⟩ (.int .i64 0)).setCell ⟨w.heap.size + 1, 5, none⟩ (.int .i64 0)).setCell ⟨w.heap.size + 1, 6, none⟩ (.int .i64 0)).setCell ⟨w.heap.size + 1, 7, none⟩ (.int .i64 0)).alloc (.cells #[.int .i64 (pl), .int .i64 21] 116)).drew = W8 at hb8 ⊢
            obtain ⟨hbel8, hres8, hw8⟩ := hb8
            have HE : Hid (SegPost p q w (segS p (⟨⟨nm, ct, kn⟩, sm, pl, ns⟩ : Part)) (.returned (.tuple #[.agg #[.int .i64 kn, .int .i64 0, .int .i64 0, .int .i64 0, .int .i64 0, .int .i64 0, .int .i64 0, .int .i64 0], .pointer (some ⟨wm.heap.size, 0, none⟩)])) W8) := seg_bad hbel8 HQ.out (by unfold segS; rw [HPRE.out, if_neg (by rw [i1']; simp)]) hw8
            have rr0 : W8.cell? ⟨w.heap.size + 1, 0, none⟩ = some (.int .i64 kn) := by rw [heap_cell hres8]; rfl
            have rr1 : W8.cell? ⟨w.heap.size + 1, 1, none⟩ = some (.int .i64 0) := by rw [heap_cell hres8]; rfl
            have rr2 : W8.cell? ⟨w.heap.size + 1, 2, none⟩ = some (.int .i64 0) := by rw [heap_cell hres8]; rfl
            have rr3 : W8.cell? ⟨w.heap.size + 1, 3, none⟩ = some (.int .i64 0) := by rw [heap_cell hres8]; rfl
            have rr4 : W8.cell? ⟨w.heap.size + 1, 4, none⟩ = some (.int .i64 0) := by rw [heap_cell hres8]; rfl
            have rr5 : W8.cell? ⟨w.heap.size + 1, 5, none⟩ = some (.int .i64 0) := by rw [heap_cell hres8]; rfl
            have rr6 : W8.cell? ⟨w.heap.size + 1, 6, none⟩ = some (.int .i64 0) := by rw [heap_cell hres8]; rfl
            have rr7 : W8.cell? ⟨w.heap.size + 1, 7, none⟩ = some (.int .i64 0) := by rw [heap_cell hres8]; rfl
            clear hbel8 hres8 hw8
            go_wp2
            (try simp only [Exit.inBlock, Exit.then])
            refine bodyPost_ret (v := .tuple #[.agg #[.int .i64 kn, .int .i64 0, .int .i64 0, .int .i64 0, .int .i64 0, .int .i64 0, .int .i64 0, .int .i64 0], .pointer (some ⟨wm.heap.size, 0, none⟩)]) (by simp [results, Tryd.results63, go_sem, rr0, rr1, rr2, rr3, rr4, rr5, rr6, rr7]) rfl ?_
            exact HE.out
          · have hb8 := bad8 HSM.out #[.int .i64 (pl), .int .i64 21] (.int .i64 kn) (.int .i64 0) (.int .i64 0) (.int .i64 0) (.int .i64 0) (.int .i64 0) (.int .i64 0) (.int .i64 0) _ rfl
            clear r1 rf r0 rf0 s1 s0
            generalize (((((((((wm.alloc (.cells #[.int .i64 (pl), .int .i64 21] 116)).setCell ⟨w.heap.size + 1, 0, none⟩ (.int .i64 kn)).setCell ⟨w.heap.size + 1, 1, none⟩ (.int .i64 0)).setCell ⟨w.heap.size + 1, 2, none⟩ (.int .i64 0)).setCell ⟨w.heap.size + 1, 3, none⟩ (.int .i64 0)).setCell ⟨w.heap.size + 1, 4, none⟩ (.int .i64 0)).setCell ⟨w.heap.size + 1, 5, none⟩ (.int .i64 0)).setCell ⟨w.heap.size + 1, 6, none⟩ (.int .i64 0)).setCell ⟨w.heap.size + 1, 7, none⟩ (.int .i64 0)).drew = W8 at hb8 ⊢
            obtain ⟨hbel8, hres8, hw8⟩ := hb8
            have HE : Hid (SegPost p q w (segS p (⟨⟨nm, ct, kn⟩, sm, pl, ns⟩ : Part)) (.returned (.tuple #[.agg #[.int .i64 kn, .int .i64 0, .int .i64 0, .int .i64 0, .int .i64 0, .int .i64 0, .int .i64 0, .int .i64 0], .pointer (some ⟨wm.heap.size, 0, none⟩)])) W8) := seg_bad hbel8 HQ.out (by unfold segS; rw [HPRE.out, if_neg (by rw [i1']; simp)]) hw8
            have rr0 : W8.cell? ⟨w.heap.size + 1, 0, none⟩ = some (.int .i64 kn) := by rw [heap_cell hres8]; rfl
            have rr1 : W8.cell? ⟨w.heap.size + 1, 1, none⟩ = some (.int .i64 0) := by rw [heap_cell hres8]; rfl
            have rr2 : W8.cell? ⟨w.heap.size + 1, 2, none⟩ = some (.int .i64 0) := by rw [heap_cell hres8]; rfl
            have rr3 : W8.cell? ⟨w.heap.size + 1, 3, none⟩ = some (.int .i64 0) := by rw [heap_cell hres8]; rfl
            have rr4 : W8.cell? ⟨w.heap.size + 1, 4, none⟩ = some (.int .i64 0) := by rw [heap_cell hres8]; rfl
            have rr5 : W8.cell? ⟨w.heap.size + 1, 5, none⟩ = some (.int .i64 0) := by rw [heap_cell hres8]; rfl
            have rr6 : W8.cell? ⟨w.heap.size + 1, 6, none⟩ = some (.int .i64 0) := by rw [heap_cell hres8]; rfl
            have rr7 : W8.cell? ⟨w.heap.size + 1, 7, none⟩ = some (.int .i64 0) := by rw [heap_cell hres8]; rfl
            clear hbel8 hres8 hw8
            go_wp2
            (try simp only [Exit.inBlock, Exit.then])
            refine bodyPost_ret (v := .tuple #[.agg #[.int .i64 kn, .int .i64 0, .int .i64 0, .int .i64 0, .int .i64 0, .int .i64 0, .int .i64 0, .int .i64 0], .pointer (some ⟨wm.heap.size, 0, none⟩)]) (by simp [results, Tryd.results63, go_sem, rr0, rr1, rr2, rr3, rr4, rr5, rr6, rr7]) rfl ?_
            exact HE.out
      · have f83 : ((nm : Int) == 83) = false := by simp; omega
        have f84 : ((nm : Int) == 84) = true := by simp; omega
        clear hst
        by_cases i1 : inR m1 = true
        · by_cases i2 : inR m2 = true
          · go_wp2_with (first
                | (go_at_call 81; (with_reducible refine (HMIR.out).mono ?_); rintro e wm ⟨rfl, hbm⟩; have HSM := Lib.hid (HS.out.on hbm); clear hbm; (obtain ⟨x0, x1, x2, x3, x4, x5⟩ := HSM.out.x); dsimp only at x0 x1 x2 x3 x4 x5)
                | (go_at_call 58; (with_reducible refine (in_any _ _).mono ?_); rintro e w2 ⟨rfl, rfl⟩))
            go_meet
            exact ⟨[m1, m2], by rw [HPRE.out, if_pos ⟨i1, i2⟩], VRow.two (heap_alloc_new _ _) (by have := HSM.out.size; omega), HSM.out.on ((Bel.refl wm).alloc _)⟩
          · have i2' : inR m2 = false := by simpa using i2
            clear i2
            go_wp2_with (first
                | (go_at_call 81; (with_reducible refine (HMIR.out).mono ?_); rintro e wm ⟨rfl, hbm⟩; have HSM := Lib.hid (HS.out.on hbm); clear hbm; (obtain ⟨x0, x1, x2, x3, x4, x5⟩ := HSM.out.x); dsimp only at x0 x1 x2 x3 x4 x5)
                | (go_at_call 58; (with_reducible refine (in_any _ _).mono ?_); rintro e w2 ⟨rfl, rfl⟩))
            have HA := fun o => HSM.out.on ((Bel.refl wm).alloc o)
            have r1 := fun o => (HA o).r.1
            have rf := fun o => (HA o).r.2
            have r0 := HSM.out.r.1
            have rf0 := HSM.out.r.2
            have s1 := fun o => (HA o).s.1
            have s0 := HSM.out.s.1
            clear HA
            go_region
            · have hb8 := bad8s HSM.out #[.int .i64 (pl), .int .i64 21] (.int .i64 kn) (.int .i64 0) (.int .i64 0) (.int .i64 0) (.int .i64 0) (.int .i64 0) (.int .i64 0) (.int .i64 0) _ rfl
              clear r1 rf r0 rf0 s1 s0
              generalize (((((((((wm.setCell ⟨w.heap.size + 1, 0, none⟩ (.int .i64 kn)).setCell ⟨w.heap.size + 1, 1, none⟩ (.int .i64 0)).setCell ⟨w.heap.size + 1, 2, none⟩ (.int .i64 0)).setCell ⟨w.heap.size + 1, 3, none⟩ (.int .i64 0)).setCell ⟨w.heap.size + 1, 4, none⟩ (.int .i64 0)).setCell ⟨w.heap.size + 1, 5, none⟩ (.int .i64 0)).setCell ⟨w.heap.size + 1, 6, none⟩ (.int .i64 0)).setCell ⟨w.heap.size + 1, 7, none⟩ (.int .i64 0)).alloc (.cells #[.int .i64 (pl), .int .i64 21] 116)).drew = W8 at hb8 ⊢
              obtain ⟨hbel8, hres8, hw8⟩ := hb8
              have HE : Hid (SegPost p q w (segS p (⟨⟨nm, ct, kn⟩, sm, pl, ns⟩ : Part)) (.returned (.tuple #[.agg #[.int .i64 kn, .int .i64 0, .int .i64 0, .int .i64 0, .int .i64 0, .int .i64 0, .int .i64 0, .int .i64 0], .pointer (some ⟨wm.heap.size, 0, none⟩)])) W8) := seg_bad hbel8 HQ.out (by unfold segS; rw [HPRE.out, if_neg (by rw [i2']; simp)]) hw8
              have rr0 : W8.cell? ⟨w.heap.size + 1, 0, none⟩ = some (.int .i64 kn) := by rw [heap_cell hres8]; rfl
              have rr1 : W8.cell? ⟨w.heap.size + 1, 1, none⟩ = some (.int .i64 0) := by rw [heap_cell hres8]; rfl
              have rr2 : W8.cell? ⟨w.heap.size + 1, 2, none⟩ = some (.int .i64 0) := by rw [heap_cell hres8]; rfl
              have rr3 : W8.cell? ⟨w.heap.size + 1, 3, none⟩ = some (.int .i64 0) := by rw [heap_cell hres8]; rfl
              have rr4 : W8.cell? ⟨w.heap.size + 1, 4, none⟩ = some (.int .i64 0) := by rw [heap_cell hres8]; rfl
              have rr5 : W8.cell? ⟨w.heap.size + 1, 5, none⟩ = some (.int .i64 0) := by rw [heap_cell hres8]; rfl
              have rr6 : W8.cell? ⟨w.heap.size + 1, 6, none⟩ = some (.int .i64 0) := by rw [heap_cell hres8]; rfl
              have rr7 : W8.cell? ⟨w.heap.size + 1, 7, none⟩ = some (.int .i64 0) := by rw [heap_cell hres8]; rfl
              clear hbel8 hres8 hw8
              go_wp2
              (try simp only [Exit.inBlock, Exit.then])
              refine bodyPost_ret (v := .tuple #[.agg #[.int .i64 kn, .int .i64 0, .int .i64 0, .int .i64 0, .int .i64 0, .int .i64 0, .int .i64 0, .int .i64 0], .pointer (some ⟨wm.heap.size, 0, none⟩)]) (by simp [results, Tryd.results63, go_sem, rr0, rr1, rr2, rr3, rr4, rr5, rr6, rr7]) rfl ?_
              exact HE.out
            · have hb8 := bad8 HSM.out #[.int .i64 (pl), .int .i64 21] (.int .i64 kn) (.int .i64 0) (.int .i64 0) (.int .i64 0) (.int .i64 0) (.int .i64 0) (.int .i64 0) (.int .i64 0) _ rfl
              clear r1 rf r0 rf0 s1 s0
              generalize (((((((((wm.alloc (.cells #[.int .i64 (pl), .int .i64 21] 116)).setCell ⟨w.heap.size + 1, 0, none⟩ (.int .i64 kn)).setCell ⟨w.heap.size + 1, 1, none⟩ (.int .i64 0)).setCell ⟨w.heap.size + 1, 2, none⟩ (.int .i64 0)).setCell ⟨w.heap.size + 1, 3, none⟩ (.int .i64 0)).setCell ⟨w.heap.size + 1, 4, none⟩ (.int .i64 0)).setCell ⟨w.heap.size + 1, 5, none⟩ (.int .i64 0)).setCell ⟨w.heap.size + 1, 6, none⟩ (.int .i64 0)).setCell ⟨w.heap.size + 1, 7, none⟩ (.int .i64 0)).drew = W8 at hb8 ⊢
              obtain ⟨hbel8, hres8, hw8⟩ := hb8
              have HE : Hid (SegPost p q w (segS p (⟨⟨nm, ct, kn⟩, sm, pl, ns⟩ : Part)) (.returned (.tuple #[.agg #[.int .i64 kn, .int .i64 0, .int .i64 0, .int .i64 0, .int .i64 0, .int .i64 0, .int .i64 0, .int .i64 0], .pointer (some ⟨wm.heap.size, 0, none⟩)])) W8) := seg_bad hbel8 HQ.out (by unfold segS; rw [HPRE.out, if_neg (by rw [i2']; simp)]) hw8
              have rr0 : W8.cell? ⟨w.heap.size + 1, 0, none⟩ = some (.int .i64 kn) := by rw [heap_cell hres8]; rfl
              have rr1 : W8.cell? ⟨w.heap.size + 1, 1, none⟩ = some (.int .i64 0) := by rw [heap_cell hres8]; rfl
              have rr2 : W8.cell? ⟨w.heap.size + 1, 2, none⟩ = some (.int .i64 0) := by rw [heap_cell hres8]; rfl
              have rr3 : W8.cell? ⟨w.heap.size + 1, 3, none⟩ = some (.int .i64 0) := by rw [heap_cell hres8]; rfl
              have rr4 : W8.cell? ⟨w.heap.size + 1, 4, none⟩ = some (.int .i64 0) := by rw [heap_cell hres8]; rfl
              have rr5 : W8.cell? ⟨w.heap.size + 1, 5, none⟩ = some (.int .i64 0) := by rw [heap_cell hres8]; rfl
              have rr6 : W8.cell? ⟨w.heap.size + 1, 6, none⟩ = some (.int .i64 0) := by rw [heap_cell hres8]; rfl
              have rr7 : W8.cell? ⟨w.heap.size + 1, 7, none⟩ = some (.int .i64 0) := by rw [heap_cell hres8]; rfl
              clear hbel8 hres8 hw8
              go_wp2
              (try simp only [Exit.inBlock, Exit.then])
              refine bodyPost_ret (v := .tuple #[.agg #[.int .i64 kn, .int .i64 0, .int .i64 0, .int .i64 0, .int .i64 0, .int .i64 0, .int .i64 0, .int .i64 0], .pointer (some ⟨wm.heap.size, 0, none⟩)]) (by simp [results, Tryd.results63, go_sem, rr0, rr1, rr2, rr3, rr4, rr5, rr6, rr7]) rfl ?_
              exact HE.out
        · have i1' : inR m1 = false := by simpa using i1
          clear i1
          go_wp2_with (first
                | (go_at_call 81; (with_reducible refine (HMIR.out).mono ?_); rintro e wm ⟨rfl, hbm⟩; have HSM := Lib.hid (HS.out.on hbm); clear hbm; (obtain ⟨x0, x1, x2, x3, x4, x5⟩ := HSM.out.x); dsimp only at x0 x1 x2 x3 x4 x5)
                | (go_at_call 58; (with_reducible refine (in_any _ _).mono ?_); rintro e w2 ⟨rfl, rfl⟩))
          have HA := fun o => HSM.out.on ((Bel.refl wm).alloc o)
          have r1 := fun o => (HA o).r.1
          have rf := fun o => (HA o).r.2
          have r0 := HSM.out.r.1
          have rf0 := HSM.out.r.2
          have s1 := fun o => (HA o).s.1
          have s0 := HSM.out.s.1
          clear HA
          go_region
          · have hb8 := bad8s HSM.out #[.int .i64 (pl), .int .i64 21] (.int .i64 kn) (.int .i64 0) (.int .i64 0) (.int .i64 0) (.int .i64 0) (.int .i64 0) (.int .i64 0) (.int .i64 0) _ rfl
            clear r1 rf r0 rf0 s1 s0
            generalize (((((((((wm.setCell ⟨w.heap.size + 1, 0, none⟩ (.int .i64 kn)).setCell ⟨w.heap.size + 1, 1, none⟩ (.int .i64 0)).setCell ⟨w.heap.size + 1, 2, none⟩ (.int .i64 0)).setCell ⟨w.heap.size + 1, 3, none⟩ (.int .i64 0)).setCell ⟨w.heap.size + 1, 4, none⟩ (.int .i64 0)).setCell ⟨w.heap.size + 1, 5, none⟩ (.int .i64 0)).setCell ⟨w.heap.size + 1, 6, none⟩ (.int .i64 0)).setCell ⟨w.heap.size + 1, 7, none⟩ (.int .i64 0)).alloc (.cells #[.int .i64 (pl), .int .i64 21] 116)).drew = W8 at hb8 ⊢
            obtain ⟨hbel8, hres8, hw8⟩ := hb8
            have HE : Hid (SegPost p q w (segS p (⟨⟨nm, ct, kn⟩, sm, pl, ns⟩ : Part)) (.returned (.tuple #[.agg #[.int .i64 kn, .int .i64 0, .int .i64 0, .int .i64 0, .int .i64 0, .int .i64 0, .int .i64 0, .int .i64 0], .pointer (some ⟨wm.heap.size, 0, none⟩)])) W8) := seg_bad hbel8 HQ.out (by unfold segS; rw [HPRE.out, if_neg (by rw [i1']; simp)]) hw8
            have rr0 : W8.cell? ⟨w.heap.size + 1, 0, none⟩ = some (.int .i64 kn) := by rw [heap_cell hres8]; rfl
            have rr1 : W8.cell? ⟨w.heap.size + 1, 1, none⟩ = some (.int .i64 0) := by rw [heap_cell hres8]; rfl
            have rr2 : W8.cell? ⟨w.heap.size + 1, 2, none⟩ = some (.int .i64 0) := by rw [heap_cell hres8]; rfl
            have rr3 : W8.cell? ⟨w.heap.size + 1, 3, none⟩ = some (.int .i64 0) := by rw [heap_cell hres8]; rfl
            have rr4 : W8.cell? ⟨w.heap.size + 1, 4, none⟩ = some (.int .i64 0) := by rw [heap_cell hres8]; rfl
            have rr5 : W8.cell? ⟨w.heap.size + 1, 5, none⟩ = some (.int .i64 0) := by rw [heap_cell hres8]; rfl
            have rr6 : W8.cell? ⟨w.heap.size + 1, 6, none⟩ = some (.int .i64 0) := by rw [heap_cell hres8]; rfl
            have rr7 : W8.cell? ⟨w.heap.size + 1, 7, none⟩ = some (.int .i64 0) := by rw [heap_cell hres8]; rfl
            clear hbel8 hres8 hw8
            go_wp2
            (try simp only [Exit.inBlock, Exit.then])
            refine bodyPost_ret (v := .tuple #[.agg #[.int .i64 kn, .int .i64 0, .int .i64 0, .int .i64 0, .int .i64 0, .int .i64 0, .int .i64 0, .int .i64 0], .pointer (some ⟨wm.heap.size, 0, none⟩)]) (by simp [results, Tryd.results63, go_sem, rr0, rr1, rr2, rr3, rr4, rr5, rr6, rr7]) rfl ?_
            exact HE.out
          · have hb8 := bad8 HSM.out #[.int .i64 (pl), .int .i64 21] (.int .i64 kn) (.int .i64 0) (.int .i64 0) (.int .i64 0) (.int .i64 0) (.int .i64 0) (.int .i64 0) (.int .i64 0) _ rfl
            clear r1 rf r0 rf0 s1 s0
            generalize (((((((((wm.alloc (.cells #[.int .i64 (pl), .int .i64 21] 116)).setCell ⟨w.heap.size + 1, 0, none⟩ (.int .i64 kn)).setCell ⟨w.heap.size + 1, 1, none⟩ (.int .i64 0)).setCell ⟨w.heap.size + 1, 2, none⟩ (.int .i64 0)).setCell ⟨w.heap.size + 1, 3, none⟩ (.int .i64 0)).setCell ⟨w.heap.size + 1, 4, none⟩ (.int .i64 0)).setCell ⟨w.heap.size + 1, 5, none⟩ (.int .i64 0)).setCell ⟨w.heap.size + 1, 6, none⟩ (.int .i64 0)).setCell ⟨w.heap.size + 1, 7, none⟩ (.int .i64 0)).drew = W8 at hb8 ⊢
            obtain ⟨hbel8, hres8, hw8⟩ := hb8
            have HE : Hid (SegPost p q w (segS p (⟨⟨nm, ct, kn⟩, sm, pl, ns⟩ : Part)) (.returned (.tuple #[.agg #[.int .i64 kn, .int .i64 0, .int .i64 0, .int .i64 0, .int .i64 0, .int .i64 0, .int .i64 0, .int .i64 0], .pointer (some ⟨wm.heap.size, 0, none⟩)])) W8) := seg_bad hbel8 HQ.out (by unfold segS; rw [HPRE.out, if_neg (by rw [i1']; simp)]) hw8
            have rr0 : W8.cell? ⟨w.heap.size + 1, 0, none⟩ = some (.int .i64 kn) := by rw [heap_cell hres8]; rfl
            have rr1 : W8.cell? ⟨w.heap.size + 1, 1, none⟩ = some (.int .i64 0) := by rw [heap_cell hres8]; rfl
            have rr2 : W8.cell? ⟨w.heap.size + 1, 2, none⟩ = some (.int .i64 0) := by rw [heap_cell hres8]; rfl
            have rr3 : W8.cell? ⟨w.heap.size + 1, 3, none⟩ = some (.int .i64 0) := by rw [heap_cell hres8]; rfl
            have rr4 : W8.cell? ⟨w.heap.size + 1, 4, none⟩ = some (.int .i64 0) := by rw [heap_cell hres8]; rfl
            have rr5 : W8.cell? ⟨w.heap.size + 1, 5, none⟩ = some (.int .i64 0) := by rw [heap_cell hres8]; rfl
            have rr6 : W8.cell? ⟨w.heap.size + 1, 6, none⟩ = some (.int .i64 0) := by rw [heap_cell hres8]; rfl
            have rr7 : W8.cell? ⟨w.heap.size + 1, 7, none⟩ = some (.int .i64 0) := by rw [heap_cell hres8]; rfl
            clear hbel8 hres8 hw8
            go_wp2
            (try simp only [Exit.inBlock, Exit.then])
            refine bodyPost_ret (v := .tuple #[.agg #[.int .i64 kn, .int .i64 0, .int .i64 0, .int .i64 0, .int .i64 0, .int .i64 0, .int .i64 0, .int .i64 0], .pointer (some ⟨wm.heap.size, 0, none⟩)]) (by simp [results, Tryd.results63, go_sem, rr0, rr1, rr2, rr3, rr4, rr5, rr6, rr7]) rfl ?_
            exact HE.out
    · have f83 : ((nm : Int) == 83) = false := by simp; omega
      have f84 : ((nm : Int) == 84) = false := by simp; omega
      have HPRE : Hid (preS p (⟨⟨nm, ct, kn⟩, sm, pl, ns⟩ : Part) = .ok []) := by
        unfold Hid preS
        rw [if_neg hst]
      clear hst hmir
      go_wp2
      go_meet
      exact ⟨[], HPRE.out, VRow.nil _ _, HS.out⟩
  case rest =>
  obtain ⟨pr, hpre, hv, hs⟩ := hcut
  have HPRE := Lib.hid hpre
  have HV := Lib.hid hv
  have HS2 := Lib.hid hs
  clear hpre hv hs HS V
  obtain ⟨x0, x1, x2, x3, x4, x5⟩ := HS2.out.x
  dsimp only at x0 x1 x2 x3 x4 x5
  go_upto_if 54 with fail
  go_cut [10] from 54 to 76 (fun s10 wx => ∃ (W : Int) (ns' : List Tok) (p' : Option Addr) (c' : Nat), weightS (⟨⟨nm, ct, kn⟩, sm, pl, ns⟩ : Part) = .ok (W, ns') ∧ s10 = .slice p' ns'.length c' ∧ TokRow w w.heap.size (.slice p' ns'.length c') ns' ∧ VRow wx (w.heap.size + 3) u7 pr ∧ Sb w wx (⟨⟨nm, ct, kn⟩, sm, pl, ns⟩ : Part) (.slice np ns.length nc) [.int .i64 kn, .int .i64 0, .int .i64 0, .int .i64 0, .int .i64 0, .int .i64 0, .int .i64 0, .int .i64 W])
  case first =>
    have hq5 : kn = 5 → ∃ t r, ns = t :: r := by
      intro e
      subst e
      have hl := HX.out.2.1
      have hr := HX.out.1
      dsimp only at hl hr
      have h5 : ∀ y ∈ rulesL, y.kind = 5 → y.count = 5 := by decide
      have := h5 _ hr rfl
      dsimp only at this
      cases ns with
      | nil => simp at hl; omega
      | cons t r => exact ⟨t, r, rfl⟩
    by_cases h5 : kn = 5
    · obtain ⟨t, r, rfl⟩ := hq5 h5
      have f5 : ((kn : Int) == 5) = true := by simp; omega
      have hk := HN.out
      obtain ⟨tb, to', tc, he, htc, htb, ⟨q0, q1, q2, q3⟩, htl⟩ := hk.cons
      replace q0 := HS2.out.bel.cell q0
      replace q1 := HS2.out.bel.cell q1
      replace q2 := HS2.out.bel.cell q2
      replace q3 := HS2.out.bel.cell q3
      simp only [Value.slice.injEq] at he
      obtain ⟨rfl, _, rfl⟩ := he
      obtain ⟨p1, hpp⟩ : ∃ p1, (if nc = 1 then some (⟨tb, to', none⟩ : Addr) else some ⟨tb, to' + 4, none⟩) = p1 := ⟨_, rfl⟩
      rw [hpp] at htl
      obtain ⟨s0, sf⟩ := HS2.out.s
      have HTL := Lib.hid htl
      clear htl hk hq5
      simp only [List.length_cons] at x5
      have w7 := s0.2.2.2.2.2.2.2
      have hs3 : Sb w (wc.setCell ⟨w.heap.size + 1 + 1, 7, none⟩ (.int .i64 t.n)) (⟨⟨nm, ct, kn⟩, sm, pl, t :: r⟩ : Part) (.slice (some ⟨tb, to', none⟩) (t :: r).length nc) [.int .i64 kn, .int .i64 0, .int .i64 0, .int .i64 0, .int .i64 0, .int .i64 0, .int .i64 0, .int .i64 t.n] := by
        exact HS2.out.setW _
      have HS3 := Lib.hid hs3
      obtain ⟨z0, z1, z2, z3, z4, z5⟩ := hs3.x
      obtain ⟨y0, yf⟩ := hs3.s
      dsimp only at z0 z1 z2 z3 z4 z5
      have hne : ∀ j, (⟨tb, j, none⟩ : Addr).block ≠ w.heap.size + 1 + 1 := fun j => by show tb ≠ _; omega
      have q2' : (wc.setCell ⟨w.heap.size + 1 + 1, 7, none⟩ (.int .i64 t.n)).cell? ⟨tb, to' + 2, none⟩ = some (.int .i64 t.n) := by rw [World.cell?_of_block (Below.heap_setCell _ _ _ _ (hne _))]; exact q2
      have q3' : (wc.setCell ⟨w.heap.size + 1 + 1, 7, none⟩ (.int .i64 t.n)).cell? ⟨tb, to' + 3, none⟩ = some (.int .i64 t.place) := by rw [World.cell?_of_block (Below.heap_setCell _ _ _ _ (hne _))]; exact q3
      have HV3 : Hid (VRow (wc.setCell ⟨w.heap.size + 1 + 1, 7, none⟩ (.int .i64 t.n)) (w.heap.size + 3) u7 pr) := own_keep HV.out fun k hk => Below.heap_setCell _ _ _ _ (by have := (HV.out.lt k hk).1; simp; omega)
      have HTL3 := HTL
      have HWS : Hid (weightS (⟨⟨nm, ct, kn⟩, sm, pl, t :: r⟩ : Part) = if t.n < 1 ∨ 4096 < t.n then .error t.place else .ok (t.n, r)) := by unfold Hid weightS; rw [if_pos h5]
      have hcl : decide ((0 : Int) < (r.length : Int) + 1) = true := decide_eq_true (by omega)
      clear hs3 hne h5
      obtain ⟨kd0, ts0, n0, pl0⟩ := t
      dsimp only at q0 q1 q2 q3 q2' q3' HWS HV3 HS3 z0 z1 z2 z3 z4 z5 y0 yf
      by_cases b1 : n0 < 1
      · have d1 : decide (n0 < 1) = true := decide_eq_true b1
        have HR : Hid (segS p (⟨⟨nm, ct, kn⟩, sm, pl, ⟨kd0, ts0, n0, pl0⟩ :: r⟩ : Part) = .error pl0) := by unfold Hid segS; rw [HPRE.out]; simp only; rw [HWS.out, if_pos (Or.inl b1)]
        clear b1
        go_wp2_with fail
        clear HV3 HTL3
        generalize (wc.setCell ⟨w.heap.size + 1 + 1, 7, none⟩ (.int .i64 n0)) = wq at HS3 q2' q3' z0 z1 z2 z3 z4 z5 y0 yf ⊢
        have HA := fun o => HS3.out.on ((Bel.refl wq).alloc o)
        have r1 := fun o => (HA o).r.1
        have rf := fun o => (HA o).r.2
        have r0 := HS3.out.r.1
        have rf0 := HS3.out.r.2
        have s1 := fun o => (HA o).s.1
        have s0 := HS3.out.s.1
        clear HA
        go_region
        · have hb8 := bad8s HS3.out #[.int .i64 (pl0), .int .i64 21] (.int .i64 kn) (.int .i64 0) (.int .i64 0) (.int .i64 0) (.int .i64 0) (.int .i64 0) (.int .i64 0) (.int .i64 n0) _ rfl
          clear r1 rf r0 rf0 s1 s0
          generalize (((((((((wq.setCell ⟨w.heap.size + 1, 0, none⟩ (.int .i64 kn)).setCell ⟨w.heap.size + 1, 1, none⟩ (.int .i64 0)).setCell ⟨w.heap.size + 1, 2, none⟩ (.int .i64 0)).setCell ⟨w.heap.size + 1, 3, none⟩ (.int .i64 0)).setCell ⟨w.heap.size + 1, 4, none⟩ (.int .i64 0)).setCell ⟨w.heap.size + 1, 5, none⟩ (.int .i64 0)).setCell ⟨w.heap.size + 1, 6, none⟩ (.int .i64 0)).setCell ⟨w.heap.size + 1, 7, none⟩ (.int .i64 n0)).alloc (.cells #[.int .i64 (pl0), .int .i64 21] 116)).drew = W8 at hb8 ⊢
          obtain ⟨hbel8, hres8, hw8⟩ := hb8
          have HE : Hid (SegPost p q w (segS p (⟨⟨nm, ct, kn⟩, sm, pl, ⟨kd0, ts0, n0, pl0⟩ :: r⟩ : Part)) (.returned (.tuple #[.agg #[.int .i64 kn, .int .i64 0, .int .i64 0, .int .i64 0, .int .i64 0, .int .i64 0, .int .i64 0, .int .i64 n0], .pointer (some ⟨wq.heap.size, 0, none⟩)])) W8) := seg_bad hbel8 HQ.out HR.out hw8
          have rr0 : W8.cell? ⟨w.heap.size + 1, 0, none⟩ = some (.int .i64 kn) := by rw [heap_cell hres8]; rfl
          have rr1 : W8.cell? ⟨w.heap.size + 1, 1, none⟩ = some (.int .i64 0) := by rw [heap_cell hres8]; rfl
          have rr2 : W8.cell? ⟨w.heap.size + 1, 2, none⟩ = some (.int .i64 0) := by rw [heap_cell hres8]; rfl
          have rr3 : W8.cell? ⟨w.heap.size + 1, 3, none⟩ = some (.int .i64 0) := by rw [heap_cell hres8]; rfl
          have rr4 : W8.cell? ⟨w.heap.size + 1, 4, none⟩ = some (.int .i64 0) := by rw [heap_cell hres8]; rfl
          have rr5 : W8.cell? ⟨w.heap.size + 1, 5, none⟩ = some (.int .i64 0) := by rw [heap_cell hres8]; rfl
          have rr6 : W8.cell? ⟨w.heap.size + 1, 6, none⟩ = some (.int .i64 0) := by rw [heap_cell hres8]; rfl
          have rr7 : W8.cell? ⟨w.heap.size + 1, 7, none⟩ = some (.int .i64 n0) := by rw [heap_cell hres8]; rfl
          clear hbel8 hres8 hw8
          go_wp2
          (try simp only [Exit.inBlock, Exit.then])
          refine bodyPost_ret (v := .tuple #[.agg #[.int .i64 kn, .int .i64 0, .int .i64 0, .int .i64 0, .int .i64 0, .int .i64 0, .int .i64 0, .int .i64 n0], .pointer (some ⟨wq.heap.size, 0, none⟩)]) (by simp [results, Tryd.results63, go_sem, rr0, rr1, rr2, rr3, rr4, rr5, rr6, rr7]) rfl ?_
          exact HE.out
        · have hb8 := bad8 HS3.out #[.int .i64 (pl0), .int .i64 21] (.int .i64 kn) (.int .i64 0) (.int .i64 0) (.int .i64 0) (.int .i64 0) (.int .i64 0) (.int .i64 0) (.int .i64 n0) _ rfl
          clear r1 rf r0 rf0 s1 s0
          generalize (((((((((wq.alloc (.cells #[.int .i64 (pl0), .int .i64 21] 116)).setCell ⟨w.heap.size + 1, 0, none⟩ (.int .i64 kn)).setCell ⟨w.heap.size + 1, 1, none⟩ (.int .i64 0)).setCell ⟨w.heap.size + 1, 2, none⟩ (.int .i64 0)).setCell ⟨w.heap.size + 1, 3, none⟩ (.int .i64 0)).setCell ⟨w.heap.size + 1, 4, none⟩ (.int .i64 0)).setCell ⟨w.heap.size + 1, 5, none⟩ (.int .i64 0)).setCell ⟨w.heap.size + 1, 6, none⟩ (.int .i64 0)).setCell ⟨w.heap.size + 1, 7, none⟩ (.int .i64 n0)).drew = W8 at hb8 ⊢
          obtain ⟨hbel8, hres8, hw8⟩ := hb8
          have HE : Hid (SegPost p q w (segS p (⟨⟨nm, ct, kn⟩, sm, pl, ⟨kd0, ts0, n0, pl0⟩ :: r⟩ : Part)) (.returned (.tuple #[.agg #[.int .i64 kn, .int .i64 0, .int .i64 0, .int .i64 0, .int .i64 0, .int .i64 0, .int .i64 0, .int .i64 n0], .pointer (some ⟨wq.heap.size, 0, none⟩)])) W8) := seg_bad hbel8 HQ.out HR.out hw8
          have rr0 : W8.cell? ⟨w.heap.size + 1, 0, none⟩ = some (.int .i64 kn) := by rw [heap_cell hres8]; rfl
          have rr1 : W8.cell? ⟨w.heap.size + 1, 1, none⟩ = some (.int .i64 0) := by rw [heap_cell hres8]; rfl
          have rr2 : W8.cell? ⟨w.heap.size + 1, 2, none⟩ = some (.int .i64 0) := by rw [heap_cell hres8]; rfl
          have rr3 : W8.cell? ⟨w.heap.size + 1, 3, none⟩ = some (.int .i64 0) := by rw [heap_cell hres8]; rfl
          have rr4 : W8.cell? ⟨w.heap.size + 1, 4, none⟩ = some (.int .i64 0) := by rw [heap_cell hres8]; rfl
          have rr5 : W8.cell? ⟨w.heap.size + 1, 5, none⟩ = some (.int .i64 0) := by rw [heap_cell hres8]; rfl
          have rr6 : W8.cell? ⟨w.heap.size + 1, 6, none⟩ = some (.int .i64 0) := by rw [heap_cell hres8]; rfl
          have rr7 : W8.cell? ⟨w.heap.size + 1, 7, none⟩ = some (.int .i64 n0) := by rw [heap_cell hres8]; rfl
          clear hbel8 hres8 hw8
          go_wp2
          (try simp only [Exit.inBlock, Exit.then])
          refine bodyPost_ret (v := .tuple #[.agg #[.int .i64 kn, .int .i64 0, .int .i64 0, .int .i64 0, .int .i64 0, .int .i64 0, .int .i64 0, .int .i64 n0], .pointer (some ⟨wq.heap.size, 0, none⟩)]) (by simp [results, Tryd.results63, go_sem, rr0, rr1, rr2, rr3, rr4, rr5, rr6, rr7]) rfl ?_
          exact HE.out
      · have d1 : decide (n0 < 1) = false := decide_eq_false b1
        by_cases b2 : 4096 < n0
        · have d2 : decide (4096 < n0) = true := decide_eq_true b2
          have HR : Hid (segS p (⟨⟨nm, ct, kn⟩, sm, pl, ⟨kd0, ts0, n0, pl0⟩ :: r⟩ : Part) = .error pl0) := by unfold Hid segS; rw [HPRE.out]; simp only; rw [HWS.out, if_pos (Or.inr b2)]
          clear b1 b2
          go_wp2_with fail
          clear HV3 HTL3
          generalize (wc.setCell ⟨w.heap.size + 1 + 1, 7, none⟩ (.int .i64 n0)) = wq at HS3 q2' q3' z0 z1 z2 z3 z4 z5 y0 yf ⊢
          have HA := fun o => HS3.out.on ((Bel.refl wq).alloc o)
          have r1 := fun o => (HA o).r.1
          have rf := fun o => (HA o).r.2
          have r0 := HS3.out.r.1
          have rf0 := HS3.out.r.2
          have s1 := fun o => (HA o).s.1
          have s0 := HS3.out.s.1
          clear HA
          go_region
          · have hb8 := bad8s HS3.out #[.int .i64 (pl0), .int .i64 21] (.int .i64 kn) (.int .i64 0) (.int .i64 0) (.int .i64 0) (.int .i64 0) (.int .i64 0) (.int .i64 0) (.int .i64 n0) _ rfl
            clear r1 rf r0 rf0 s1 s0
            generalize (((((((((wq.setCell ⟨w.heap.size + 1, 0, none⟩ (.int .i64 kn)).setCell ⟨w.heap.size + 1, 1, none⟩ (.int .i64 0)).setCell ⟨w.heap.size + 1, 2, none⟩ (.int .i64 0)).setCell ⟨w.heap.size + 1, 3, none⟩ (.int .i64 0)).setCell ⟨w.heap.size + 1, 4, none⟩ (.int .i64 0)).setCell ⟨w.heap.size + 1, 5, none⟩ (.int .i64 0)).setCell ⟨w.heap.size + 1, 6, none⟩ (.int .i64 0)).setCell ⟨w.heap.size + 1, 7, none⟩ (.int .i64 n0)).alloc (.cells #[.int .i64 (pl0), .int .i64 21] 116)).drew = W8 at hb8 ⊢
            obtain ⟨hbel8, hres8, hw8⟩ := hb8
            have HE : Hid (SegPost p q w (segS p (⟨⟨nm, ct, kn⟩, sm, pl, ⟨kd0, ts0, n0, pl0⟩ :: r⟩ : Part)) (.returned (.tuple #[.agg #[.int .i64 kn, .int .i64 0, .int .i64 0, .int .i64 0, .int .i64 0, .int .i64 0, .int .i64 0, .int .i64 n0], .pointer (some ⟨wq.heap.size, 0, none⟩)])) W8) := seg_bad hbel8 HQ.out HR.out hw8
            have rr0 : W8.cell? ⟨w.heap.size + 1, 0, none⟩ = some (.int .i64 kn) := by rw [heap_cell hres8]; rfl
            have rr1 : W8.cell? ⟨w.heap.size + 1, 1, none⟩ = some (.int .i64 0) := by rw [heap_cell hres8]; rfl
            have rr2 : W8.cell? ⟨w.heap.size + 1, 2, none⟩ = some (.int .i64 0) := by rw [heap_cell hres8]; rfl
            have rr3 : W8.cell? ⟨w.heap.size + 1, 3, none⟩ = some (.int .i64 0) := by rw [heap_cell hres8]; rfl
            have rr4 : W8.cell? ⟨w.heap.size + 1, 4, none⟩ = some (.int .i64 0) := by rw [heap_cell hres8]; rfl
            have rr5 : W8.cell? ⟨w.heap.size + 1, 5, none⟩ = some (.int .i64 0) := by rw [heap_cell hres8]; rfl
            have rr6 : W8.cell? ⟨w.heap.size + 1, 6, none⟩ = some (.int .i64 0) := by rw [heap_cell hres8]; rfl
            have rr7 : W8.cell? ⟨w.heap.size + 1, 7, none⟩ = some (.int .i64 n0) := by rw [heap_cell hres8]; rfl
            clear hbel8 hres8 hw8
            go_wp2
            (try simp only [Exit.inBlock, Exit.then])
            refine bodyPost_ret (v := .tuple #[.agg #[.int .i64 kn, .int .i64 0, .int .i64 0, .int .i64 0, .int .i64 0, .int .i64 0, .int .i64 0, .int .i64 n0], .pointer (some ⟨wq.heap.size, 0, none⟩)]) (by simp [results, Tryd.results63, go_sem, rr0, rr1, rr2, rr3, rr4, rr5, rr6, rr7]) rfl ?_
            exact HE.out
          · have hb8 := bad8 HS3.out #[.int .i64 (pl0), .int .i64 21] (.int .i64 kn) (.int .i64 0) (.int .i64 0) (.int .i64 0) (.int .i64 0) (.int .i64 0) (.int .i64 0) (.int .i64 n0) _ rfl
            clear r1 rf r0 rf0 s1 s0
            generalize (((((((((wq.alloc (.cells #[.int .i64 (pl0), .int .i64 21] 116)).setCell ⟨w.heap.size + 1, 0, none⟩ (.int .i64 kn)).setCell ⟨w.heap.size + 1, 1, none⟩ (.int .i64 0)).setCell ⟨w.heap.size + 1, 2, none⟩ (.int .i64 0)).setCell ⟨w.heap.size + 1, 3, none⟩ (.int .i64 0)).setCell ⟨w.heap.size + 1, 4, none⟩ (.int .i64 0)).setCell ⟨w.heap.size + 1, 5, none⟩ (.int .i64 0)).setCell ⟨w.heap.size + 1, 6, none⟩ (.int .i64 0)).setCell ⟨w.heap.size + 1, 7, none⟩ (.int .i64 n0)).drew = W8 at hb8 ⊢
            obtain ⟨hbel8, hres8, hw8⟩ := hb8
            have HE : Hid (SegPost p q w (segS p (⟨⟨nm, ct, kn⟩, sm, pl, ⟨kd0, ts0, n0, pl0⟩ :: r⟩ : Part)) (.returned (.tuple #[.agg #[.int .i64 kn, .int .i64 0, .int .i64 0, .int .i64 0, .int .i64 0, .int .i64 0, .int .i64 0, .int .i64 n0], .pointer (some ⟨wq.heap.size, 0, none⟩)])) W8) := seg_bad hbel8 HQ.out HR.out hw8
            have rr0 : W8.cell? ⟨w.heap.size + 1, 0, none⟩ = some (.int .i64 kn) := by rw [heap_cell hres8]; rfl
            have rr1 : W8.cell? ⟨w.heap.size + 1, 1, none⟩ = some (.int .i64 0) := by rw [heap_cell hres8]; rfl
            have rr2 : W8.cell? ⟨w.heap.size + 1, 2, none⟩ = some (.int .i64 0) := by rw [heap_cell hres8]; rfl
            have rr3 : W8.cell? ⟨w.heap.size + 1, 3, none⟩ = some (.int .i64 0) := by rw [heap_cell hres8]; rfl
            have rr4 : W8.cell? ⟨w.heap.size + 1, 4, none⟩ = some (.int .i64 0) := by rw [heap_cell hres8]; rfl
            have rr5 : W8.cell? ⟨w.heap.size + 1, 5, none⟩ = some (.int .i64 0) := by rw [heap_cell hres8]; rfl
            have rr6 : W8.cell? ⟨w.heap.size + 1, 6, none⟩ = some (.int .i64 0) := by rw [heap_cell hres8]; rfl
            have rr7 : W8.cell? ⟨w.heap.size + 1, 7, none⟩ = some (.int .i64 n0) := by rw [heap_cell hres8]; rfl
            clear hbel8 hres8 hw8
            go_wp2
            (try simp only [Exit.inBlock, Exit.then])
            refine bodyPost_ret (v := .tuple #[.agg #[.int .i64 kn, .int .i64 0, .int .i64 0, .int .i64 0, .int .i64 0, .int .i64 0, .int .i64 0, .int .i64 n0], .pointer (some ⟨wq.heap.size, 0, none⟩)]) (by simp [results, Tryd.results63, go_sem, rr0, rr1, rr2, rr3, rr4, rr5, rr6, rr7]) rfl ?_
            exact HE.out
        · have d2 : decide (4096 < n0) = false := decide_eq_false b2
          have HW : Hid (weightS (⟨⟨nm, ct, kn⟩, sm, pl, ⟨kd0, ts0, n0, pl0⟩ :: r⟩ : Part) = .ok (n0, r)) := by unfold Hid; rw [HWS.out, if_neg (by omega)]
          clear b1 b2
          go_wp2
          go_meet
          exact ⟨n0, r, p1, nc - 1, HW.out, rfl, HTL3.out, HV3.out, HS3.out⟩
    · have f5 : ((kn : Int) == 5) = false := by simp; omega
      clear hq5
      have HW : Hid (weightS (⟨⟨nm, ct, kn⟩, sm, pl, ns⟩ : Part) = .ok (0, ns)) := by unfold Hid weightS; rw [if_neg h5]
      go_wp2
      go_meet
      exact ⟨0, ns, np, nc, HW.out, rfl, HN.out, HV.out, HS2.out⟩
  case rest =>
  obtain ⟨W, ns', p', c', hw, rfl, htk, hv, hs⟩ := hcut
  have hsub : ns'.length ≤ ns.length ∧ ∀ t ∈ ns', t ∈ ns := weight_sub hw
  have hct : ns.length ≤ 6 := by
    have h1 := HX.out.2.1
    have h2 : ∀ y ∈ rulesL, y.count ≤ 6 := by decide
    have h3 := h2 _ HX.out.1
    dsimp only at h1 h3
    omega
  have hnl : ns'.length ≤ 6 := by omega
  have htok : Hid (∀ t ∈ ns', TkOk t) := fun t ht => (HX.out.2.2 t (hsub.2 t ht)).2
  have HR := Lib.hid (seg_form HPRE.out hw)
  have HFL : Hid (∀ dn : List Int, dn.length = ns'.length → (lineV p (⟨⟨nm, ct, kn⟩, sm, pl, ns⟩ : Part) (pr ++ dn)).length = countK kn) := fun dn hd => fin_len HX.out HPRE.out hw hd
  have HH1 : Hid (nm = 72 ∨ nm = 86 → 1 ≤ ns'.length) := one_num HX.out hw
  have HTK := Lib.hid htk
  have HV2 := Lib.hid hv
  have HS3 := Lib.hid hs
  have HPL : Hid (pr.length ≤ 2) := pre_len HPRE.out
  clear hw htk hv hs HV HS2 x0 x1 x2 x3 x4 x5 hsub hct HPRE HN
  go_wp2_with fail
  go_loopg [7, 79] ns'.length (fun gf s7 i wx => ∃ (k : Nat) (dn : List Int), i = .int .i64 k ∧ k ≤ ns'.length ∧ ns'.length ≤ k + gf ∧ absL p (⟨⟨nm, ct, kn⟩, sm, pl, ns⟩ : Part) ns' 0 = preE dn (absL p (⟨⟨nm, ct, kn⟩, sm, pl, ns⟩ : Part) (ns'.drop k) k) ∧ VRow wx (w.heap.size + 3) s7 (pr ++ dn) ∧ dn.length = k ∧ Sb w wx (⟨⟨nm, ct, kn⟩, sm, pl, ns⟩ : Part) (.slice np ns.length nc) [.int .i64 kn, .int .i64 0, .int .i64 0, .int .i64 0, .int .i64 0, .int .i64 0, .int .i64 0, .int .i64 W])
  case atStart => exact ⟨0, [], rfl, Nat.zero_le _, by omega, (preE_nil _).symm, by simpa using HV2.out, rfl, HS3.out⟩
  case round =>
    obtain ⟨k, dn, rfl, hkl, hkg, hra, hv, hdn, hs⟩ := hrel
    have HRA := Lib.hid hra
    have HVR := Lib.hid hv
    have HSR := Lib.hid hs
    have hpl : (pr ++ dn).length ≤ 2 + k := by have := HPL.out; rw [List.length_append]; omega
    clear hra hv hs
    by_cases hk : k < ns'.length
    · obtain ⟨t, ht⟩ : ∃ t, ns'[k]? = some t := ⟨_, List.getElem?_eq_getElem hk⟩
      obtain ⟨tb, to', tc, he, htc, htb, ⟨q0, q1, q2, q3⟩⟩ := HTK.out.at ht
      simp only [Value.slice.injEq] at he
      obtain ⟨rfl, _, rfl⟩ := he
      have htt := htok.out t (List.mem_of_getElem? ht)
      have HST := Lib.hid (preE_step (p := p) (x := (⟨⟨nm, ct, kn⟩, sm, pl, ns⟩ : Part)) (dn := dn) ht)
      replace q0 := HSR.out.bel.cell q0
      replace q1 := HSR.out.bel.cell q1
      replace q2 := HSR.out.bel.cell q2
      replace q3 := HSR.out.bel.cell q3
      obtain ⟨kd0, ts0, n0, pl0⟩ := t
      dsimp only at q0 q1 q2 q3
      go_upto_region 20 with fail
      have HB : Hid (Bel wr (wr.alloc (.cells #[.int .i64 kd0, .string ⟨ts0.toArray⟩, .int .i64 n0, .int .i64 pl0] 106))) := (Bel.refl wr).alloc _
      have HTB : Hid ((wr.alloc (.cells #[.int .i64 kd0, .string ⟨ts0.toArray⟩, .int .i64 n0, .int .i64 pl0] 106)).heap[wr.heap.size]? = some (.cells #[.int .i64 kd0, .string ⟨ts0.toArray⟩, .int .i64 n0, .int .i64 pl0] 106 (0, 0))) := heap_alloc_new _ _
      generalize wr.alloc (.cells #[.int .i64 kd0, .string ⟨ts0.toArray⟩, .int .i64 n0, .int .i64 pl0] 106) = wt at HB HTB ⊢
      have HST' := Lib.hid (HSR.out.on HB.out)
      have HVT := Lib.hid (VRow.bel HVR.out HB.out)
      have HPT := Lib.hid (HST'.out.bel.heap HPN.out)
      have hTT : w.heap.size + 1 < wr.heap.size := by have := HSR.out.size; omega
      generalize wr.heap.size = TT at HTB hTT ⊢
      clear HSR HVR HB q0 q1 q2 q3
      obtain ⟨x0, x1, x2, x3, x4, x5⟩ := HST'.out.x
      dsimp only at x0 x1 x2 x3 x4 x5
      obtain ⟨up, hup⟩ : ∃ up, decide (k % 2 = 1 ∨ nm = 86) = up := ⟨_, rfl⟩
      go_cut [14, 79] from 79 to 128 (fun s14 s79 wx => s14 = .bool up ∧ s79 = .int .i64 k ∧ wx = wt)
      case first =>
        have HUP := Lib.hid hup
        clear hup
        by_cases h1 : k % 2 = 1
        · have f1 : (((k : Int) % 2) == 1) = true := by simp; omega
          have HU : up = true := by rw [← HUP.out]; exact decide_eq_true (Or.inl h1)
          clear h1
          subst HU
          go_wp2
          go_meet
          exact ⟨rfl, rfl, rfl⟩
        · have f1 : (((k : Int) % 2) == 1) = false := by simp; omega
          by_cases h2 : nm = 86
          · have f2 : ((nm : Int) == 86) = true := by simp; omega
            have HU : up = true := by rw [← HUP.out]; exact decide_eq_true (Or.inr h2)
            clear h1 h2
            subst HU
            go_wp2
            go_meet
            exact ⟨rfl, rfl, rfl⟩
          · have f2 : ((nm : Int) == 86) = false := by simp; omega
            have HU : up = false := by rw [← HUP.out]; exact decide_eq_false (fun h => h.elim h1 h2)
            clear h1 h2
            subst HU
            go_wp2
            go_meet
            exact ⟨rfl, rfl, rfl⟩
      case rest =>
      obtain ⟨rfl, rfl, rfl⟩ := hcut
      have HAB : Hid (absN p (⟨⟨nm, ct, kn⟩, sm, pl, ns⟩ : Part) k ⟨kd0, ts0, n0, pl0⟩ = if sm = true then (if up = true then n0 + p.y else n0 + p.x) else n0) := by
        unfold Hid absN
        dsimp only
        rw [← hup]
        simp
      clear hup
      obtain ⟨av, hav⟩ : ∃ av, absN p (⟨⟨nm, ct, kn⟩, sm, pl, ns⟩ : Part) k ⟨kd0, ts0, n0, pl0⟩ = av := ⟨_, rfl⟩
      rw [hav] at HAB HST
      have c0 : wc.cell? ⟨q, 0, none⟩ = some (.int .i64 p.x) := by rw [heap_cell HPT.out]; rfl
      have c1 : wc.cell? ⟨q, 1, none⟩ = some (.int .i64 p.y) := by rw [heap_cell HPT.out]; rfl
      go_upto_block 3 with fail
      go_cut [13, 79] from 79 to 128 (fun s13 s79 wx => s13 = .int .i64 av ∧ s79 = .int .i64 k ∧ wx = wc)
      case first =>
        obtain ⟨ax1, ax2⟩ := HP.out.x
        obtain ⟨ay1, ay2⟩ := HP.out.y
        obtain ⟨_, _, _, an1, an2⟩ := htt
        dsimp only at an1 an2
        have HA2 := Lib.hid HAB.out
        cases sm with
        | false =>
          have hv : av = n0 := by rw [HA2.out]; rfl
          go_wp2
          go_meet
          exact ⟨by rw [hv], rfl, rfl⟩
        | true =>
          cases up with
          | false =>
            have hv : av = n0 + p.x := by rw [HA2.out]; rfl
            go_wp2
            go_meet
            exact ⟨by rw [hv], rfl, rfl⟩
          | true =>
            have hv : av = n0 + p.y := by rw [HA2.out]; rfl
            go_wp2
            go_meet
            exact ⟨by rw [hv], rfl, rfl⟩
      case rest =>
      obtain ⟨rfl, rfl, rfl⟩ := hcut
      have t3 : wc.cell? ⟨TT, 3, none⟩ = some (.int .i64 pl0) := by rw [heap_cell HTB.out]; rfl
      have HVB := Lib.hid HAB
      clear HAB c0 c1
      by_cases hin : inR av = true
      · have HAL : Hid (absL p (⟨⟨nm, ct, kn⟩, sm, pl, ns⟩ : Part) ns' 0 = preE (dn ++ [av]) (absL p (⟨⟨nm, ct, kn⟩, sm, pl, ns⟩ : Part) (ns'.drop (k + 1)) (k + 1))) := by unfold Hid; rw [HRA.out, HST.out, if_pos hin]
        obtain ⟨gk', rfl⟩ : ∃ g, gk = g + 1 := ⟨gk - 1, by omega⟩
        have hmx : (pr ++ dn).length + 1 ≤ maxLen := by unfold maxLen; omega
        have hmb : ((pr ++ dn).length + 1) * 8 ≤ 140737488355328 := by omega
        go_wp2_with (first
          | (go_at_call 58; (with_reducible refine (in_any _ _).mono ?_); rintro e w2 ⟨rfl, rfl⟩)
          | (at_builtin; (refine wpList_push rfl (.tmp 124) (.tmp 126) 60 rfl (w.heap.size + 3) 2 _ 1 8 Tryd.underlying60 infoInt64 rfl (by decide) u7 (pr ++ dn).length ((pr ++ dn).map (Value.int .i64)) rfl HVT.out _ _ _ rfl (by simp) rfl (by simp [Value.oneCell']) hmx hmb HST'.out.size ?_); intro v5 w5 hown5 hg5 _; have HO5 := Lib.hid hown5; have HG5 := Lib.hid hg5; clear hown5 hg5))
        have HV5 : Hid (VRow w5 (w.heap.size + 3) v5 (pr ++ (dn ++ [av]))) := by
          have h5 := HO5.out
          unfold Hid VRow
          rw [← List.append_assoc, List.length_append, List.map_append]
          exact h5
        have HS5 : Hid (Sb w w5 (⟨⟨nm, ct, kn⟩, sm, pl, ns⟩ : Part) (.slice np ns.length nc) [.int .i64 kn, .int .i64 0, .int .i64 0, .int .i64 0, .int .i64 0, .int .i64 0, .int .i64 0, .int .i64 W]) := Sb.grown HST'.out HG5.out (fun j hj => (HVT.out.lt j hj).1)
        clear hmx hmb HO5 HG5
        go_roundg gk'
        case measure => omega
        case rel => exact ⟨k + 1, dn ++ [av], rfl, by omega, by omega, HAL.out, HV5.out, by simp [hdn], HS5.out⟩
      · have hin' : inR av = false := by simpa using hin
        have HE : Hid (segS p (⟨⟨nm, ct, kn⟩, sm, pl, ns⟩ : Part) = .error pl0) := by unfold Hid; rw [HR.out, HRA.out, HST.out, if_neg hin]
        clear hin HVT HPT HTB
        go_wp2_with (first
          | (go_at_call 58; (with_reducible refine (in_any _ _).mono ?_); rintro e w2 ⟨rfl, rfl⟩))
        have HA := fun o => HST'.out.on ((Bel.refl wc).alloc o)
        have r1 := fun o => (HA o).r.1
        have rf := fun o => (HA o).r.2
        have r0 := HST'.out.r.1
        have rf0 := HST'.out.r.2
        have s1 := fun o => (HA o).s.1
        have s0 := HST'.out.s.1
        clear HA
        go_region
        · have hb8 := bad8s HST'.out #[.int .i64 (pl0), .int .i64 21] (.int .i64 kn) (.int .i64 0) (.int .i64 0) (.int .i64 0) (.int .i64 0) (.int .i64 0) (.int .i64 0) (.int .i64 W) _ rfl
          clear r1 rf r0 rf0 s1 s0
          generalize (((((((((wc.setCell ⟨w.heap.size + 1, 0, none⟩ (.int .i64 kn)).setCell ⟨w.heap.size + 1, 1, none⟩ (.int .i64 0)).setCell ⟨w.heap.size + 1, 2, none⟩ (.int .i64 0)).setCell ⟨w.heap.size + 1, 3, none⟩ (.int .i64 0)).setCell ⟨w.heap.size + 1, 4, none⟩ (.int .i64 0)).setCell ⟨w.heap.size + 1, 5, none⟩ (.int .i64 0)).setCell ⟨w.heap.size + 1, 6, none⟩ (.int .i64 0)).setCell ⟨w.heap.size + 1, 7, none⟩ (.int .i64 W)).alloc (.cells #[.int .i64 (pl0), .int .i64 21] 116)).drew = W8 at hb8 ⊢
          obtain ⟨hbel8, hres8, hw8⟩ := hb8
          have HE : Hid (SegPost p q w (segS p (⟨⟨nm, ct, kn⟩, sm, pl, ns⟩ : Part)) (.returned (.tuple #[.agg #[.int .i64 kn, .int .i64 0, .int .i64 0, .int .i64 0, .int .i64 0, .int .i64 0, .int .i64 0, .int .i64 W], .pointer (some ⟨wc.heap.size, 0, none⟩)])) W8) := seg_bad hbel8 HQ.out HE.out hw8
          have rr0 : W8.cell? ⟨w.heap.size + 1, 0, none⟩ = some (.int .i64 kn) := by rw [heap_cell hres8]; rfl
          have rr1 : W8.cell? ⟨w.heap.size + 1, 1, none⟩ = some (.int .i64 0) := by rw [heap_cell hres8]; rfl
          have rr2 : W8.cell? ⟨w.heap.size + 1, 2, none⟩ = some (.int .i64 0) := by rw [heap_cell hres8]; rfl
          have rr3 : W8.cell? ⟨w.heap.size + 1, 3, none⟩ = some (.int .i64 0) := by rw [heap_cell hres8]; rfl
          have rr4 : W8.cell? ⟨w.heap.size + 1, 4, none⟩ = some (.int .i64 0) := by rw [heap_cell hres8]; rfl
          have rr5 : W8.cell? ⟨w.heap.size + 1, 5, none⟩ = some (.int .i64 0) := by rw [heap_cell hres8]; rfl
          have rr6 : W8.cell? ⟨w.heap.size + 1, 6, none⟩ = some (.int .i64 0) := by rw [heap_cell hres8]; rfl
          have rr7 : W8.cell? ⟨w.heap.size + 1, 7, none⟩ = some (.int .i64 W) := by rw [heap_cell hres8]; rfl
          clear hbel8 hres8 hw8
          go_wp2
          (try simp only [Exit.inBlock, Exit.then])
          refine bodyPost_ret (v := .tuple #[.agg #[.int .i64 kn, .int .i64 0, .int .i64 0, .int .i64 0, .int .i64 0, .int .i64 0, .int .i64 0, .int .i64 W], .pointer (some ⟨wc.heap.size, 0, none⟩)]) (by simp [results, Tryd.results63, go_sem, rr0, rr1, rr2, rr3, rr4, rr5, rr6, rr7]) rfl ?_
          exact HE.out
        · have hb8 := bad8 HST'.out #[.int .i64 (pl0), .int .i64 21] (.int .i64 kn) (.int .i64 0) (.int .i64 0) (.int .i64 0) (.int .i64 0) (.int .i64 0) (.int .i64 0) (.int .i64 W) _ rfl
          clear r1 rf r0 rf0 s1 s0
          generalize (((((((((wc.alloc (.cells #[.int .i64 (pl0), .int .i64 21] 116)).setCell ⟨w.heap.size + 1, 0, none⟩ (.int .i64 kn)).setCell ⟨w.heap.size + 1, 1, none⟩ (.int .i64 0)).setCell ⟨w.heap.size + 1, 2, none⟩ (.int .i64 0)).setCell ⟨w.heap.size + 1, 3, none⟩ (.int .i64 0)).setCell ⟨w.heap.size + 1, 4, none⟩ (.int .i64 0)).setCell ⟨w.heap.size + 1, 5, none⟩ (.int .i64 0)).setCell ⟨w.heap.size + 1, 6, none⟩ (.int .i64 0)).setCell ⟨w.heap.size + 1, 7, none⟩ (.int .i64 W)).drew = W8 at hb8 ⊢
          obtain ⟨hbel8, hres8, hw8⟩ := hb8
          have HE : Hid (SegPost p q w (segS p (⟨⟨nm, ct, kn⟩, sm, pl, ns⟩ : Part)) (.returned (.tuple #[.agg #[.int .i64 kn, .int .i64 0, .int .i64 0, .int .i64 0, .int .i64 0, .int .i64 0, .int .i64 0, .int .i64 W], .pointer (some ⟨wc.heap.size, 0, none⟩)])) W8) := seg_bad hbel8 HQ.out HE.out hw8
          have rr0 : W8.cell? ⟨w.heap.size + 1, 0, none⟩ = some (.int .i64 kn) := by rw [heap_cell hres8]; rfl
          have rr1 : W8.cell? ⟨w.heap.size + 1, 1, none⟩ = some (.int .i64 0) := by rw [heap_cell hres8]; rfl
          have rr2 : W8.cell? ⟨w.heap.size + 1, 2, none⟩ = some (.int .i64 0) := by rw [heap_cell hres8]; rfl
          have rr3 : W8.cell? ⟨w.heap.size + 1, 3, none⟩ = some (.int .i64 0) := by rw [heap_cell hres8]; rfl
          have rr4 : W8.cell? ⟨w.heap.size + 1, 4, none⟩ = some (.int .i64 0) := by rw [heap_cell hres8]; rfl
          have rr5 : W8.cell? ⟨w.heap.size + 1, 5, none⟩ = some (.int .i64 0) := by rw [heap_cell hres8]; rfl
          have rr6 : W8.cell? ⟨w.heap.size + 1, 6, none⟩ = some (.int .i64 0) := by rw [heap_cell hres8]; rfl
          have rr7 : W8.cell? ⟨w.heap.size + 1, 7, none⟩ = some (.int .i64 W) := by rw [heap_cell hres8]; rfl
          clear hbel8 hres8 hw8
          go_wp2
          (try simp only [Exit.inBlock, Exit.then])
          refine bodyPost_ret (v := .tuple #[.agg #[.int .i64 kn, .int .i64 0, .int .i64 0, .int .i64 0, .int .i64 0, .int .i64 0, .int .i64 0, .int .i64 W], .pointer (some ⟨wc.heap.size, 0, none⟩)]) (by simp [results, Tryd.results63, go_sem, rr0, rr1, rr2, rr3, rr4, rr5, rr6, rr7]) rfl ?_
          exact HE.out
    · obtain rfl : k = ns'.length := by omega
      have HFIN : Hid (segS p (⟨⟨nm, ct, kn⟩, sm, pl, ns⟩ : Part) = .ok (finS p (⟨⟨nm, ct, kn⟩, sm, pl, ns⟩ : Part) W (pr ++ dn))) := by
        unfold Hid
        rw [HR.out, HRA.out, List.drop_length]
        simp [absL, preE]
      have h1L : nm = 72 ∨ nm = 86 → 1 ≤ (pr ++ dn).length := fun h => by have := HH1.out h; rw [List.length_append]; omega
      have H1L := Lib.hid h1L
      have HFN := Lib.hid (HFL.out dn hdn)
      clear h1L hk HRA hkg hdn
      obtain ⟨L, hL⟩ : ∃ L, pr ++ dn = L := ⟨_, rfl⟩
      rw [hL] at HFIN H1L HVR hpl HFN
      clear hL
      obtain ⟨x0, x1, x2, x3, x4, x5⟩ := HSR.out.x
      dsimp only at x0 x1 x2 x3 x4 x5
      go_upto_block 4 with fail
      go_cut [7] from 132 to 151 (fun s7 wx => VRow wx (w.heap.size + 3) s7 (lineV p (⟨⟨nm, ct, kn⟩, sm, pl, ns⟩ : Part) L) ∧ Sb w wx (⟨⟨nm, ct, kn⟩, sm, pl, ns⟩ : Part) (.slice np ns.length nc) [.int .i64 kn, .int .i64 0, .int .i64 0, .int .i64 0, .int .i64 0, .int .i64 0, .int .i64 0, .int .i64 W])
      case first =>
        have HPT := Lib.hid (HSR.out.bel.heap HPN.out)
        have c0 : wr.cell? ⟨q, 0, none⟩ = some (.int .i64 p.x) := by rw [heap_cell HPT.out]; rfl
        have c1 : wr.cell? ⟨q, 1, none⟩ = some (.int .i64 p.y) := by rw [heap_cell HPT.out]; rfl
        by_cases hH : nm = 72
        · have f1 : ((nm : Int) == 72) = true := by simp; omega
          obtain ⟨a, L', rfl⟩ : ∃ a L', L = a :: L' := by
            have := H1L.out (Or.inl hH)
            cases L with
            | nil => simp at this
            | cons a l => exact ⟨a, l, rfl⟩
          obtain ⟨vg, vc, rfl, hvb, hva⟩ := VRow.first HVR.out
          have HLV : Hid (lineV p (⟨⟨nm, ct, kn⟩, sm, pl, ns⟩ : Part) (a :: L') = [a, p.y]) := by unfold Hid lineV; rw [if_pos hH]; rfl
          have hlp : decide ((0 : Int) < (L'.length : Int) + 1) = true := decide_eq_true (by omega)
          clear hH
          go_wp2_with fail
          go_region
          go_wp2
          go_meet
          exact ⟨by rw [HLV.out]; exact VRow.two (heap_alloc_new _ _) (by have := HSR.out.size; simp; omega), HSR.out.on (((Bel.refl wr).alloc _).drew)⟩
        · have f1 : ((nm : Int) == 72) = false := by simp; omega
          by_cases hV : nm = 86
          · have f2 : ((nm : Int) == 86) = true := by simp; omega
            obtain ⟨a, L', rfl⟩ : ∃ a L', L = a :: L' := by
              have := H1L.out (Or.inr hV)
              cases L with
              | nil => simp at this
              | cons a l => exact ⟨a, l, rfl⟩
            obtain ⟨vg, vc, rfl, hvb, hva⟩ := VRow.first HVR.out
            have HLV : Hid (lineV p (⟨⟨nm, ct, kn⟩, sm, pl, ns⟩ : Part) (a :: L') = [p.x, a]) := by unfold Hid lineV; rw [if_neg hH, if_pos hV]; rfl
            have hlp : decide ((0 : Int) < (L'.length : Int) + 1) = true := decide_eq_true (by omega)
            clear hH hV
            go_wp2_with fail
            go_region
            go_wp2
            go_meet
            exact ⟨by rw [HLV.out]; exact VRow.two (heap_alloc_new _ _) (by have := HSR.out.size; simp; omega), HSR.out.on (((Bel.refl wr).alloc _).drew)⟩
          · have f2 : ((nm : Int) == 86) = false := by simp; omega
            have HLV : Hid (lineV p (⟨⟨nm, ct, kn⟩, sm, pl, ns⟩ : Part) L = L) := by unfold Hid lineV; rw [if_neg hH, if_neg hV]
            clear hH hV
            go_wp2
            go_meet
            exact ⟨by rw [HLV.out]; exact HVR.out, HSR.out⟩
      case rest =>
      obtain ⟨hv7, hs7⟩ := hcut
      have HS7 := Lib.hid hs7
      have hso := seg_ok HP.out HX.out HFIN.out
      have hrl := HX.out.1
      dsimp only at hrl
      have hcm : ((kn : Int) ≠ 6 → countK kn = 2 ∨ countK kn = 4 ∨ countK kn = 6) ∧ ((kn : Int) = 1 → countK kn = 2) := by
        have := (by decide : ∀ y ∈ rulesL, ((y.kind : Int) ≠ 6 → countK y.kind = 2 ∨ countK y.kind = 4 ∨ countK y.kind = 6) ∧ ((y.kind : Int) = 1 → countK y.kind = 2))
        exact this _ hrl
      have hsg := hso.2.1
      unfold finS at hsg
      dsimp only at hsg
      have HFIN2 : Hid (segS p (⟨⟨nm, ct, kn⟩, sm, pl, ns⟩ : Part) = .ok (⟨kn, lineV p (⟨⟨nm, ct, kn⟩, sm, pl, ns⟩ : Part) L ++ List.replicate (6 - (lineV p (⟨⟨nm, ct, kn⟩, sm, pl, ns⟩ : Part) L).length) 0, W⟩, moveS p ⟨kn, lineV p (⟨⟨nm, ct, kn⟩, sm, pl, ns⟩ : Part) L ++ List.replicate (6 - (lineV p (⟨⟨nm, ct, kn⟩, sm, pl, ns⟩ : Part) L).length) 0, W⟩ (lineV p (⟨⟨nm, ct, kn⟩, sm, pl, ns⟩ : Part) L).length)) := HFIN.out
      have hv8 := HFN.out
      clear HFIN hso HVR H1L hrl x0 x1 x2 x3 x4 x5 HFN
      obtain ⟨F, hF⟩ : ∃ F, lineV p (⟨⟨nm, ct, kn⟩, sm, pl, ns⟩ : Part) L = F := ⟨_, rfl⟩
      rw [hF] at HFIN2 hsg hv7 hv8
      clear hF
      have hF6 : F.length ≤ 6 := by have := hsg.1; simp only [List.length_append, List.length_replicate] at this; omega
      have hsix := hsg.1
      dsimp only at hsix
      obtain ⟨v0, v1, v2, v3, v4, v5, hvs⟩ := six hsix
      rw [hvs] at hsg HFIN2
      have HSPL := Lib.hid (splice_sg (.int .i64 kn) (.int .i64 W) hF6 hvs)
      obtain ⟨sp, scap, rfl, hshape⟩ := VRow.shape hv7
      have HSH := Lib.hid hshape
      have HSG := Lib.hid hsg
      have hmv : ∀ w3, Pn w3 q p → Calls Tryd.prog 82 #[.pointer (some ⟨q, 0, none⟩), .agg #[.int .i64 kn, .int .i64 v0, .int .i64 v1, .int .i64 v2, .int .i64 v3, .int .i64 v4, .int .i64 v5, .int .i64 W], .int .i64 F.length] w3 fun e w' => e = .returned (.tuple #[]) ∧ Below q w3 w' ∧ KeepBut q w3 w' ∧ Pn w' q (moveS p ⟨kn, [v0, v1, v2, v3, v4, v5], W⟩ F.length) :=
        fun w3 h => move_any p HP.out ⟨kn, [v0, v1, v2, v3, v4, v5], W⟩ HSG.out F.length (by rw [hv8]; exact hcm) q w3 h
      have HMV := Lib.hid hmv
      have hn1 : (F.map (Value.int .i64)).length = Nat.min F.length 6 := by rw [List.length_map]; exact (Nat.min_eq_left hF6).symm
      have hp1 : 0 < (F.map (Value.int .i64)).length → (some (⟨w.heap.size + 1 + 1, 1, none⟩ : Addr)) = some ⟨w.heap.size + 1 + 1, 1, none⟩ ∧ ∃ ad, sp = some ad ∧ ∀ j u, (F.map (Value.int .i64))[j]? = some u → wc.cell? (ad.add j) = some u := fun h => ⟨rfl, hshape (by simpa using h)⟩
      have hf1 : 1 + (F.map (Value.int .i64)).length ≤ ([.int .i64 kn, .int .i64 0, .int .i64 0, .int .i64 0, .int .i64 0, .int .i64 0, .int .i64 0, .int .i64 W] : List Value).length := by rw [List.length_map]; show 1 + F.length ≤ 8; omega
      have ho1 : ∀ u ∈ F.map (Value.int .i64), u.oneCell' = true := fun u hu => by obtain ⟨z, _, rfl⟩ := List.mem_map.1 hu; rfl
      clear hmv hsg hshape hv7 hs7 hcm hv8 hvs hpl
      go_wp2_with (first
        | (with_reducible refine wpList_copy_splice rfl (.tmp 153) (.tmp 154) 60 60 rfl 2 Tryd.underlying60 infoInt64s _ _ _ _ _ _ rfl rfl (w.heap.size + 1 + 1) 1 _ 36 HS7.out.seg (F.map (Value.int .i64)) hn1 hp1 hf1 ho1 (w.heap.size + 1 + 1) wc (Below.refl _ _) (Nat.le_refl _) ?_); intro w3 hs3 hb3; rw [HSPL.out] at hs3; have HP3 : Hid (Pn w3 q p) := ((Below.block hb3 q (by have := HQ.out; have := HS7.out.size; omega)).trans (HS7.out.bel.heap HPN.out)); have HB3 := Lib.hid hb3; have k0 := heap_cell hs3.out 0; have k1 := heap_cell hs3.out 1; have k2 := heap_cell hs3.out 2; have k3 := heap_cell hs3.out 3; have k4 := heap_cell hs3.out 4; have k5 := heap_cell hs3.out 5; have k6 := heap_cell hs3.out 6; have k7 := heap_cell hs3.out 7; have kf := fun j => heap_frozen hs3.out j; have HR3 := Lib.hid ((Below.block hb3 (w.heap.size + 1) (by have := HS7.out.size; omega)).trans HS7.out.res); have hlt3 : w.heap.size + 3 ≤ w3.heap.size := Nat.le_trans HS7.out.size hb3.size; clear hb3
        | (go_at_call 82; (with_reducible refine (HMV.out _ HP3.out).mono ?_); rintro e w4 ⟨rfl, hb4, hk4, hp4⟩; have HB4 := Lib.hid hb4; have HK4 := Lib.hid hk4; have HP4 := Lib.hid hp4; have e4 := (hk4 (w.heap.size + 1 + 1) (by omega) (by have := HQ.out; omega)).trans hs3.out; have er := (hk4 (w.heap.size + 1) (by omega) (by have := HQ.out; omega)).trans HR3.out; have HER := Lib.hid er; have l0 := heap_cell e4 0; have l1 := heap_cell e4 1; have l2 := heap_cell e4 2; have l3 := heap_cell e4 3; have l4 := heap_cell e4 4; have l5 := heap_cell e4 5; have l6 := heap_cell e4 6; have l7 := heap_cell e4 7; have m0 := heap_cell er 0; have m1 := heap_cell er 1; have m2 := heap_cell er 2; have m3 := heap_cell er 3; have m4 := heap_cell er 4; have m5 := heap_cell er 5; have m6 := heap_cell er 6; have m7 := heap_cell er 7; have mf := fun j => heap_frozen er j; clear hb4 hk4 hp4 e4 er))
      have hf8 := fin8 HER.out (.int .i64 kn) (.int .i64 v0) (.int .i64 v1) (.int .i64 v2) (.int .i64 v3) (.int .i64 v4) (.int .i64 v5) (.int .i64 W) q (by have := HQ.out; omega) _ rfl
      generalize ((((((((w4.setCell ⟨w.heap.size + 1, 0, none⟩ (.int .i64 kn)).setCell ⟨w.heap.size + 1, 1, none⟩ (.int .i64 v0)).setCell ⟨w.heap.size + 1, 2, none⟩ (.int .i64 v1)).setCell ⟨w.heap.size + 1, 3, none⟩ (.int .i64 v2)).setCell ⟨w.heap.size + 1, 4, none⟩ (.int .i64 v3)).setCell ⟨w.heap.size + 1, 5, none⟩ (.int .i64 v4)).setCell ⟨w.heap.size + 1, 6, none⟩ (.int .i64 v5)).setCell ⟨w.heap.size + 1, 7, none⟩ (.int .i64 W)) = W8 at hf8 ⊢
      obtain ⟨hb8, hk8, hr8⟩ := hf8
      have hqk : ∀ j, j < w.heap.size → j ≠ q → W8.heap[j]? = w.heap[j]? := fun j hj hjq => by
        have hb7 := HS7.out.bel
        have hz7 := HS7.out.size
        have h4 := Below.size HB4.out
        rw [hk8 j (by omega) (by omega), HK4.out j (by omega) hjq, Below.block HB3.out j (by omega), Below.block hb7 j hj]
      have hbq : Below q w W8 := (Below.mono HS7.out.bel (by have := HQ.out; omega)).trans ((Below.mono HB3.out (by have := HQ.out; omega)).trans (HB4.out.trans hb8))
      have hpn : Pn W8 q (moveS p ⟨kn, [v0, v1, v2, v3, v4, v5], W⟩ F.length) := (hk8 q (by have h4 := Below.size HB4.out; have := HQ.out; omega) (by have := HQ.out; omega)).trans HP4.out
      have rr0 : W8.cell? ⟨w.heap.size + 1, 0, none⟩ = some (.int .i64 kn) := by rw [heap_cell hr8]; rfl
      have rr1 : W8.cell? ⟨w.heap.size + 1, 1, none⟩ = some (.int .i64 v0) := by rw [heap_cell hr8]; rfl
      have rr2 : W8.cell? ⟨w.heap.size + 1, 2, none⟩ = some (.int .i64 v1) := by rw [heap_cell hr8]; rfl
      have rr3 : W8.cell? ⟨w.heap.size + 1, 3, none⟩ = some (.int .i64 v2) := by rw [heap_cell hr8]; rfl
      have rr4 : W8.cell? ⟨w.heap.size + 1, 4, none⟩ = some (.int .i64 v3) := by rw [heap_cell hr8]; rfl
      have rr5 : W8.cell? ⟨w.heap.size + 1, 5, none⟩ = some (.int .i64 v4) := by rw [heap_cell hr8]; rfl
      have rr6 : W8.cell? ⟨w.heap.size + 1, 6, none⟩ = some (.int .i64 v5) := by rw [heap_cell hr8]; rfl
      have rr7 : W8.cell? ⟨w.heap.size + 1, 7, none⟩ = some (.int .i64 W) := by rw [heap_cell hr8]; rfl
      have HE : Hid (SegPost p q w (segS p (⟨⟨nm, ct, kn⟩, sm, pl, ns⟩ : Part)) (.returned (.tuple #[.agg #[.int .i64 kn, .int .i64 v0, .int .i64 v1, .int .i64 v2, .int .i64 v3, .int .i64 v4, .int .i64 v5, .int .i64 W], .pointer none])) W8) := by
        unfold Hid
        rw [HFIN2.out]
        exact ⟨hbq, hqk, rfl, hpn⟩
      refine bodyPost_ret (v := .tuple #[.agg #[.int .i64 kn, .int .i64 v0, .int .i64 v1, .int .i64 v2, .int .i64 v3, .int .i64 v4, .int .i64 v5, .int .i64 W], .pointer none]) (by simp [results, Tryd.results63, go_sem, rr0, rr1, rr2, rr3, rr4, rr5, rr6, rr7]) rfl ?_
      exact HE.out
end Go.Proofs.YtefajplbgmikdaaDoor

/-
  The walk of path.Parse.
-/
namespace Go.Proofs.YtefajplbgmikdaaDoor
open Go.RowKit

/-- A row of parts of a path, of the call's own, behind 'base'. -/
def SRow (w : World) (base : Nat) (v : Value) (l : List Sg) : Prop := w.ownsRow base 36 8 v l.length (l.flatMap sgC)
theorem SRow.bel {w w' : World} {base : Nat} {v : Value} {l : List Sg} (h : SRow w base v l) (hb : Bel w w') : SRow w' base v l := Bel.own hb h
theorem infoSeg : (Tryd.prog.info? 36).map (fun i => (i.zero, i.size, i.bytes)) = some (some (.agg #[.int .i64 0, .int .i64 0, .int .i64 0, .int .i64 0, .int .i64 0, .int .i64 0, .int .i64 0, .int .i64 0]), 8, 64) := by kernel_rfl
/-- What Parse tells. -/
def ParsePost (w : World) (R : Except (Int × Int) (List Sg)) (e : Ending) (w' : World) : Prop :=
  Bel w w' ∧ match R with
    | .ok l => ∃ v, e = .returned (.tuple #[v, .int .i64 0, .int .i64 0]) ∧ SRow w' w.heap.size v l
    | .error (a, c) => e = .returned (.tuple #[.slice none 0 0, .int .i64 a, .int .i64 c])
theorem flat_at {α β : Type} {f : α → List β} {n : Nat} : ∀ {l : List α} {k j : Nat} {x : α} {v : β}, (∀ y ∈ l, (f y).length = n) → l[k]? = some x → (f x)[j]? = some v → (l.flatMap f)[k * n + j]? = some v
  | [], k, j, x, v, _, h, _ => by simp at h
  | y :: l, 0, j, x, v, hf, h, hj => by
    simp only [List.getElem?_cons_zero, Option.some.injEq] at h
    subst h
    rw [List.flatMap_cons, Nat.zero_mul, Nat.zero_add, List.getElem?_append_left (List.getElem?_eq_some_iff.1 hj).1]
    exact hj
  | y :: l, k + 1, j, x, v, hf, h, hj => by
    have hy := hf y (by simp)
    rw [List.flatMap_cons, List.getElem?_append_right (by rw [hy, Nat.succ_mul]; omega), hy, show (k + 1) * n + j - n = k * n + j by rw [Nat.succ_mul]; omega]
    exact flat_at (fun z hz => hf z (by simp [hz])) (by simpa using h) hj
/-- The cells of part i of the parts that were read. -/
theorem PRow.at {w : World} {r : Nat} {pv : Value} {ps : List Part} (h : PRow w r pv ps) {k : Nat} {x : Part} (hk : ps[k]? = some x) : ∃ g cap nv, pv = .slice (some ⟨g, 0, none⟩) ps.length cap ∧ r < g ∧ g < w.heap.size ∧ TokRow w w.heap.size nv x.nums ∧
    (w.cell? ⟨g, k * 6, none⟩ = some (.int .u8 x.r.name) ∧ w.cell? ⟨g, k * 6 + 1, none⟩ = some (.int .i64 x.r.count) ∧ w.cell? ⟨g, k * 6 + 2, none⟩ = some (.int .i64 x.r.kind) ∧ w.cell? ⟨g, k * 6 + 3, none⟩ = some (.bool x.small) ∧ w.cell? ⟨g, k * 6 + 4, none⟩ = some (.int .i64 x.place) ∧ w.cell? ⟨g, k * 6 + 5, none⟩ = some nv) := by
  obtain ⟨qs, hq, ⟨hlen, ho⟩, hn⟩ := h
  have hql : qs.length = ps.length := by rw [← hq]; simp
  obtain ⟨hlt, hxe⟩ := List.getElem?_eq_some_iff.1 hk
  rcases ho with h0 | ⟨g, cap, cur, rfl, hb, hg, hnc, _, hsz, ht⟩
  · omega
  · have hkq : k < qs.length := by omega
    have hqx : (qs[k]'hkq).1 = x := by
      have : (qs.map Prod.fst)[k]'(by simpa using hkq) = x := by simp only [hq]; exact hxe
      simpa using this
    have hnx := hn _ (List.getElem_mem hkq)
    rw [hqx] at hnx
    have htr : TokRow w w.heap.size (qs[k]'hkq).2 x.nums := by
      obtain ⟨hl2, h0 | ⟨g2, cap2, cur2, e2, hb2, hg2, hn2, _, hs2, ht2⟩⟩ := hnx
      · exact ⟨none, 0, by rw [h0.1, h0.2], by omega, .inl (List.eq_nil_of_length_eq_zero h0.2)⟩
      · refine ⟨_, cap2, e2, hn2, .inr ⟨g2, 0, rfl, heap_lt hg2, fun i t hi j v hj => ?_⟩⟩
        rw [heap_cell hg2, ← Array.getElem?_toList]
        have hj4 : j < 4 := by
          have := (List.getElem?_eq_some_iff.1 hj).1
          simpa [tokC] using this
        obtain ⟨hil, _⟩ := List.getElem?_eq_some_iff.1 hi
        have h3 : (toksC x.nums)[i * 4 + j]? = some v := flat_at (f := tokC) (n := 4) (fun _ _ => rfl) hi hj
        rw [← ht2, List.getElem?_take] at h3
        split at h3
        · rw [Nat.zero_add]; exact h3
        · cases h3
    have hcell : ∀ j v, (partC (qs[k]'hkq))[j]? = some v → w.cell? ⟨g, k * 6 + j, none⟩ = some v := by
      intro j v hj
      rw [heap_cell hg, ← Array.getElem?_toList]
      have h3 : (partsC qs)[k * 6 + j]? = some v := flat_at (f := partC) (n := 6) (fun _ _ => rfl) (List.getElem?_eq_getElem hkq) hj
      rw [← ht, List.getElem?_take] at h3
      split at h3
      · exact h3
      · cases h3
    subst hqx
    exact ⟨g, cap, (qs[k]'hkq).2, rfl, by omega, heap_lt hg, htr, hcell 0 _ rfl, hcell 1 _ rfl, hcell 2 _ rfl, hcell 3 _ rfl, hcell 4 _ rfl, hcell 5 _ rfl⟩
end Go.Proofs.YtefajplbgmikdaaDoor

/-
  The walk of path.Parse.
-/
namespace Go.Proofs.YtefajplbgmikdaaDoor
open Go.RowKit

def preG (dn : List Sg) : Except (Int × Int) (List Sg) → Except (Int × Int) (List Sg)
  | .ok l => .ok (dn ++ l)
  | .error e => .error e
theorem preG_nil (R : Except (Int × Int) (List Sg)) : preG [] R = R := by cases R <;> rfl
theorem preG_step {ps : List Part} {k : Nat} {x : Part} {p p' : Pen} {s : Sg} {dn : List Sg} (hk : ps[k]? = some x) (hi : k < 4096) (hs : segS p x = .ok (s, p')) : preG dn (segsS (ps.drop k) k p) = preG (dn ++ [s]) (segsS (ps.drop (k + 1)) (k + 1) p') := by
  obtain ⟨hlt, he⟩ := List.getElem?_eq_some_iff.1 hk
  rw [List.drop_eq_getElem_cons hlt, he, segsS, if_neg (by omega), hs]
  simp only
  cases segsS (ps.drop (k + 1)) (k + 1) p' <;> simp [preG]
theorem preG_bad {ps : List Part} {k : Nat} {x : Part} {p : Pen} {a : Int} {dn : List Sg} (hk : ps[k]? = some x) (hi : k < 4096) (hs : segS p x = .error a) : preG dn (segsS (ps.drop k) k p) = .error (a, 21) := by
  obtain ⟨hlt, he⟩ := List.getElem?_eq_some_iff.1 hk
  rw [List.drop_eq_getElem_cons hlt, he, segsS, if_neg (by omega), hs]
  rfl
theorem preG_many {ps : List Part} {k : Nat} {x : Part} {p : Pen} {dn : List Sg} (hk : ps[k]? = some x) (hi : 4096 ≤ k) : preG dn (segsS (ps.drop k) k p) = .error (x.place, 22) := by
  obtain ⟨hlt, he⟩ := List.getElem?_eq_some_iff.1 hk
  rw [List.drop_eq_getElem_cons hlt, he, segsS, if_pos hi]
  rfl

theorem Bel.drewN {w0 w : World} (h : Bel w0 w) (n : Nat) : Bel w0 (w.drewN n) := ⟨h.os, h.tape, h.output, h.size, h.block⟩
theorem SRow.form {w : World} {base : Nat} {v : Value} {l : List Sg} (h : SRow w base v l) : ∃ pp pc, v = .slice pp l.length pc ∧ l.length ≤ pc := by
  obtain ⟨_, h0 | ⟨g, cap, cur, e, _, _, hc, _⟩⟩ := h
  · exact ⟨none, 0, by rw [h0.1, h0.2], by omega⟩
  · exact ⟨_, cap, e, hc⟩
theorem PRow.form {w : World} {r : Nat} {pv : Value} {ps : List Part} (h : PRow w r pv ps) : ∃ pp pc, pv = .slice pp ps.length pc ∧ ps.length ≤ pc := by
  obtain ⟨qs, _, ⟨_, h0 | ⟨g, cap, cur, e, _, _, hc, _⟩⟩, _⟩ := h
  · exact ⟨none, 0, by rw [h0.1, h0.2], by omega⟩
  · exact ⟨_, cap, e, hc⟩
theorem PRow.step {w w2 : World} {r : Nat} {pv : Value} {ps : List Part} (h : PRow w r pv ps) (hb : Bel w w2) : PRow w2 r pv ps := by
  obtain ⟨qs, hq, ho, hn⟩ := h
  exact ⟨qs, hq, hb.own ho, fun q hq => hb.own (hn q hq)⟩
set_option maxHeartbeats 4000000 in
set_option maxRecDepth 100000 in
theorem parse_any (l : List Tok) (lv : Value) (en : Int) (w : World) (hl : TokRow w w.heap.size lv l) (hp : ∀ t ∈ l, TkOk t) (hwt : wt l ≤ 800000000) (hr : Rul w) (hg : 2 < w.heap.size) :
    Calls Tryd.prog 39 #[lv, .int .i64 en] w (ParsePost w (parseS l en)) := by
  have hb1 : Bel w (w.alloc (.cells #[lv, .int .i64 en, .slice none 0 0, .pointer none] 114)) := (Bel.refl w).alloc _
  have hst : St (w.alloc (.cells #[lv, .int .i64 en, .slice none 0 0, .pointer none] 114)) w.heap.size lv en (.slice none 0 0) l [] :=
    ⟨heap_alloc_new _ _, hl.below (Below.mono hb1 (Nat.le_refl _)), [], rfl, World.ownsRow_nil _ _ _ _, by simp⟩
  have hread := read_any en w.heap.size lv (.slice none 0 0) l _ hwt hp (hb1.rul hr) hst hg
  have HREAD := Lib.hid hread
  have HB1 := Lib.hid hb1
  have HPO : Hid (∀ ps, readAll en l = .ok ps → ∀ x ∈ ps, PartOk TkOk x) := fun ps h => by
    unfold readAll at h
    split at h
    · cases h
    · exact read_ok h hp (by simp)
  obtain ⟨lp, lc, rfl, _⟩ := hl
  clear hread hb1 hst hr
  go_enter Tryd.func39, Tryd.ntmps39
  cases hra : readAll en l with
  | error a =>
    have HPS : Hid (parseS l en = .error (a, 20)) := by unfold Hid parseS; rw [hra]
    rw [hra] at HREAD
    clear hra
    go_wp2_with (first
      | (go_at_call 62; (with_reducible refine (HREAD.out).mono ?_); rintro e w2 ⟨rfl, hb2, hk2, lv2, pv2, bb, hrd2, hlt2, hbb2⟩; have HB2 := Lib.hid hb2; (obtain ⟨⟨z0, z1, z2, z3⟩, zf⟩ := hrd2.all); have y0 := heap_cell hbb2 0; have y1 := heap_cell hbb2 1; clear hb2 hk2 hrd2 hbb2))
    go_quiet (fail)
    have HE : Hid (ParsePost w (parseS l en) (.returned (.tuple #[.slice none 0 0, .int .i64 a, .int .i64 20])) (w2.drewN nq)) := by
      unfold Hid
      rw [HPS.out]
      exact ⟨(HB1.out.at (Nat.le_refl _) HB2.out).drewN _, rfl⟩
    go_wp2
    exact bodyPost_ret (v := .tuple #[.slice none 0 0, .int .i64 a, .int .i64 20]) (by simp [results, Tryd.results39, go_sem]) rfl HE.out
  | ok ps =>
    have HPS : Hid (parseS l en = segsS ps 0 pen0) := by unfold Hid parseS; rw [hra]
    have hpo := HPO.out ps hra
    rw [hra] at HREAD
    clear hra HPO
    go_wp2_with (first
      | (go_at_call 62; (with_reducible refine (HREAD.out).mono ?_); rintro e w2 ⟨rfl, hb2, hk2, lv2, pv2, hrd2, hpr2⟩; have HB2 : Hid (Bel w w2) := HB1.out.at (Nat.le_refl _) hb2; have HPR2 := Lib.hid hpr2; (obtain ⟨⟨z0, z1, z2, z3⟩, zf⟩ := hrd2.all); have HRD2 := Lib.hid hrd2; (obtain ⟨pp, pc, rfl, hpc⟩ := hpr2.form); have z2' := fun o => heap_cell (heap_push_of hrd2 o) 2; clear hb2 hk2 hrd2 hpr2))
    have HW3 : Hid (Bel w2 (w2.alloc (.cells #[.int .i64 0, .int .i64 0, .int .i64 0, .int .i64 0, .int .i64 0, .int .i64 0, .int .i64 0, .int .i64 0, .int .i64 0, .int .i64 0, .int .i64 0, .int .i64 0] 119))) := (Bel.refl w2).alloc _
    have HPN0 : Hid (Pn (w2.alloc (.cells #[.int .i64 0, .int .i64 0, .int .i64 0, .int .i64 0, .int .i64 0, .int .i64 0, .int .i64 0, .int .i64 0, .int .i64 0, .int .i64 0, .int .i64 0, .int .i64 0] 119)) w2.heap.size pen0) := heap_alloc_new _ _
    have HQL : Hid (w2.heap.size < (w2.alloc (.cells #[.int .i64 0, .int .i64 0, .int .i64 0, .int .i64 0, .int .i64 0, .int .i64 0, .int .i64 0, .int .i64 0, .int .i64 0, .int .i64 0, .int .i64 0, .int .i64 0] 119)).heap.size) := by unfold Hid; simp
    generalize w2.alloc (.cells #[.int .i64 0, .int .i64 0, .int .i64 0, .int .i64 0, .int .i64 0, .int .i64 0, .int .i64 0, .int .i64 0, .int .i64 0, .int .i64 0, .int .i64 0, .int .i64 0] 119) = w3 at HW3 HPN0 HQL ⊢
    obtain ⟨q, hq⟩ : ∃ q, w2.heap.size = q := ⟨_, rfl⟩
    rw [hq] at HPN0 HQL ⊢
    have HQ := Lib.hid hq
    clear hq z0 z1 z2 z3 zf z2'
    go_loopg [9, 46] ps.length (fun gf s9 i wx => ∃ (k : Nat) (dn : List Sg) (p : Pen), i = .int .i64 k ∧ k ≤ ps.length ∧ ps.length ≤ k + gf ∧ k ≤ 4096 ∧ dn.length = k ∧ segsS ps 0 pen0 = preG dn (segsS (ps.drop k) k p) ∧ PenOk p ∧ Pn wx q p ∧ SRow wx (q + 1) s9 dn ∧ (∀ s ∈ dn, s.v.length = 6) ∧ Below q w3 wx ∧ q < wx.heap.size)
    case atStart => exact ⟨0, [], pen0, rfl, Nat.zero_le _, by omega, by omega, rfl, (preG_nil _).symm, pen0_ok, HPN0.out, World.ownsRow_nil _ _ _ _, by simp, Below.refl _ _, HQL.out⟩
    case round =>
      obtain ⟨k, dn, p, rfl, hkl, hkg, hk96, hdn, hsg, hpk, hpn, hsr, hd6, hbl, hql⟩ := hrel
      have HSG := Lib.hid hsg
      have HPK := Lib.hid hpk
      have HPN := Lib.hid hpn
      have HSR := Lib.hid hsr
      have HD6 := Lib.hid hd6
      have HBL := Lib.hid hbl
      clear hsg hpk hpn hsr hd6 hbl
      by_cases hk : k < ps.length
      · obtain ⟨x, hx⟩ : ∃ x, ps[k]? = some x := ⟨_, List.getElem?_eq_getElem hk⟩
        obtain ⟨pg, pcap, nv, hpe, hpg1, hpg2, hnr, ⟨q0, q1, q2, q3, q4, q5⟩⟩ := HPR2.out.at hx
        simp only [Value.slice.injEq] at hpe
        obtain ⟨rfl, _, rfl⟩ := hpe
        have hmx : dn.length + 1 ≤ maxLen := by unfold maxLen; omega
        have hmb : (dn.length + 1) * 64 ≤ 140737488355328 := by omega
        have hlt1 : pg < q := by have := HQ.out; omega
        have hlt2 : pg < w3.heap.size := by have := HQL.out; omega
        replace q0 := (HBL.out.cell (p := ⟨pg, k * 6, none⟩) hlt1).trans (HW3.out.cell q0)
        replace q1 := (HBL.out.cell (p := ⟨pg, k * 6 + 1, none⟩) hlt1).trans (HW3.out.cell q1)
        replace q2 := (HBL.out.cell (p := ⟨pg, k * 6 + 2, none⟩) hlt1).trans (HW3.out.cell q2)
        replace q3 := (HBL.out.cell (p := ⟨pg, k * 6 + 3, none⟩) hlt1).trans (HW3.out.cell q3)
        replace q4 := (HBL.out.cell (p := ⟨pg, k * 6 + 4, none⟩) hlt1).trans (HW3.out.cell q4)
        replace q5 := (HBL.out.cell (p := ⟨pg, k * 6 + 5, none⟩) hlt1).trans (HW3.out.cell q5)
        have HPX := Lib.hid (hpo x (List.mem_of_getElem? hx))
        have HX := Lib.hid hx
        have HNR : Hid (TokRow wr wr.heap.size nv x.nums) := (((hnr.below (Below.mono HW3.out (Nat.le_refl _))).mono (by have := HQ.out; omega : w2.heap.size ≤ q)).below HBL.out).mono (by omega)
        obtain ⟨np, nc, rfl, _⟩ := hnr
        clear hx
        obtain ⟨⟨nm, ct, kn⟩, sm, pl, ns⟩ := x
        dsimp only at q0 q1 q2 q3 q4 q5 HNR
        obtain ⟨V, hV⟩ : ∃ V, wr.alloc (.cells #[.int .u8 nm, .int .i64 ct, .int .i64 kn, .bool sm, .int .i64 pl, .slice np ns.length nc] 123) = V := ⟨_, rfl⟩
        have hWV : Bel wr V := hV ▸ (Bel.refl wr).alloc _
        have hTV : V.heap[wr.heap.size]? = some (.cells #[.int .u8 nm, .int .i64 ct, .int .i64 kn, .bool sm, .int .i64 pl, .slice np ns.length nc] 123 (0, 0)) := hV ▸ heap_alloc_new _ _
        have HWV := Lib.hid hWV
        have HTV := Lib.hid hTV
        clear hWV hTV
        have y0 : V.cell? ⟨wr.heap.size, 0, none⟩ = some (.int .u8 nm) := by rw [heap_cell HTV.out]; rfl
        have y1 : V.cell? ⟨wr.heap.size, 1, none⟩ = some (.int .i64 ct) := by rw [heap_cell HTV.out]; rfl
        have y2 : V.cell? ⟨wr.heap.size, 2, none⟩ = some (.int .i64 kn) := by rw [heap_cell HTV.out]; rfl
        have y3 : V.cell? ⟨wr.heap.size, 3, none⟩ = some (.bool sm) := by rw [heap_cell HTV.out]; rfl
        have y4 : V.cell? ⟨wr.heap.size, 4, none⟩ = some (.int .i64 pl) := by rw [heap_cell HTV.out]; rfl
        have y5 : V.cell? ⟨wr.heap.size, 5, none⟩ = some (.slice np ns.length nc) := by rw [heap_cell HTV.out]; rfl
        have hseg : Calls Tryd.prog 63 #[.pointer (some ⟨q, 0, none⟩), .agg #[.int .u8 nm, .int .i64 ct, .int .i64 kn, .bool sm, .int .i64 pl, .slice np ns.length nc]] V (SegPost p q V (segS p ⟨⟨nm, ct, kn⟩, sm, pl, ns⟩)) :=
          seg_any p HPK.out ⟨⟨nm, ct, kn⟩, sm, pl, ns⟩ HPX.out (.slice np ns.length nc) q V (HWV.out.heap HPN.out) ((HNR.out.below (Below.mono HWV.out (Nat.le_refl _))).mono HWV.out.size)
        have HSEG := Lib.hid hseg
        clear hseg
        by_cases h96 : k < 4096
        · have h96' : decide ((4096 : Int) ≤ (k : Int)) = false := decide_eq_false (by omega)
          obtain ⟨gk', rfl⟩ : ∃ g, gk = g + 1 := ⟨gk - 1, by omega⟩
          cases hS : segS p ⟨⟨nm, ct, kn⟩, sm, pl, ns⟩ with
          | error a =>
            have HR : Hid (parseS l en = .error (a, 21)) := by unfold Hid; rw [HPS.out, HSG.out, preG_bad HX.out h96 hS]
            rw [hS] at HSEG
            clear hS
            go_upto_region 10 with fail
            (try rw [hV])
            clear hV
            go_wp2_with (first
              | (go_at_call 63; (with_reducible refine (HSEG.out).mono ?_); rintro e w4 ⟨hb4, hk4, e0, e1, e2, e3, e4, e5, e6, e7, b4, rfl, hw4⟩; have HB4 := Lib.hid hb4; have HK4 := Lib.hid hk4; have HW4 := Lib.hid hw4; have z0 := fun o => heap_cell (heap_push_of hw4 o) 0; have z1 := fun o => heap_cell (heap_push_of hw4 o) 1; clear hb4 hk4 hw4))
            go_quiet (fail)
            have HE : Hid (ParsePost w (parseS l en) (.returned (.tuple #[.slice none 0 0, .int .i64 a, .int .i64 21])) ((w4.alloc (.cells #[.int .i64 e0, .int .i64 e1, .int .i64 e2, .int .i64 e3, .int .i64 e4, .int .i64 e5, .int .i64 e6, .int .i64 e7] 36)).drewN nq)) := by
              unfold Hid
              rw [HR.out]
              exact ⟨((((HB2.out.trans HW3.out).at (by have := HB2.out.size; have := HQ.out; omega) HBL.out).trans HWV.out).at (by have := HB2.out.size; have := HQ.out; omega) HB4.out).trans (((Bel.refl w4).alloc _).drewN _), rfl⟩
            go_wp2
            exact bodyPost_ret (v := .tuple #[.slice none 0 0, .int .i64 a, .int .i64 21]) (by simp [results, Tryd.results39, go_sem]) rfl HE.out
          | ok sp =>
            obtain ⟨s, p'⟩ := sp
            have hso := seg_ok HPK.out HPX.out hS
            have HNX : Hid (segsS ps 0 pen0 = preG (dn ++ [s]) (segsS (ps.drop (k + 1)) (k + 1) p')) := by unfold Hid; rw [HSG.out, preG_step HX.out h96 hS]
            rw [hS] at HSEG
            have HSO := Lib.hid hso
            clear hS hso
            obtain ⟨sk, sv, sw⟩ := s
            have h6 := HSO.out.2.1.1
            dsimp only at h6
            obtain ⟨v0, v1, v2, v3, v4, v5, rfl⟩ := six h6
            go_upto_region 10 with fail
            (try rw [hV])
            clear hV
            go_wp2_with (first
              | (go_at_call 63; (with_reducible refine (HSEG.out).mono ?_); rintro e w4 ⟨hb4, hk4, rfl, hp4⟩; have HB4 := Lib.hid hb4; have HK4 := Lib.hid hk4; have HP4 := Lib.hid hp4; have HSR4 : Hid (SRow w4 (q + 1) u9 dn) := own_keep (HWV.out.own HSR.out) (fun j hj => hk4 j (Nat.lt_of_lt_of_le (HSR.out.lt j hj).2 HWV.out.size) (by have := (HSR.out.lt j hj).1; omega)); have hq4 : q + 1 ≤ w4.heap.size := Nat.le_trans (Nat.le_trans hql HWV.out.size) hb4.size; simp only [sgC, List.map_cons, List.map_nil, List.cons_append, List.nil_append]; clear hb4 hk4 hp4)
              | (at_builtin; (refine wpList_push rfl (.tmp 71) (.tmp 73) 22 rfl (q + 1) 36 _ 8 64 Tryd.underlying22 infoSeg rfl (by decide) u9 dn.length (dn.flatMap sgC) rfl (SRow.bel HSR4.out ((Bel.refl w4).alloc _)) _ _ _ rfl (by simp) rfl (by simp [Value.oneCell']) hmx hmb (by simp; omega) ?_); intro v5' w5 hown5 hg5 _; have HO5 := Lib.hid hown5; have HG5 := Lib.hid hg5; clear hown5 hg5))
            have hgr : Below q w4 w5 := (Below.refl q w4).alloc (by omega) _ |>.grown HG5.out (by simp; omega) (fun j hj => by have := (HSR4.out.lt j hj).1; omega)
            have hkq : w5.heap[q]? = w4.heap[q]? := (HG5.out.block q (by simp; omega) (fun e => by have := (HSR4.out.lt q e.symm).1; omega)).trans (Below.heap_alloc _ _ _ (by omega))
            have HP5 : Hid (Pn w5 q p') := hkq.trans HP4.out
            have HB5 : Hid (Below q w3 w5) := (HBL.out.trans (Below.mono HWV.out (by omega))).trans (HB4.out.trans hgr)
            have hq5 : q < w5.heap.size := by have := hgr.size; omega
            have HS5 : Hid (SRow w5 (q + 1) v5' (dn ++ [⟨sk, [v0, v1, v2, v3, v4, v5], sw⟩])) := by
              unfold Hid SRow
              rw [List.length_append, List.flatMap_append]
              exact HO5.out
            clear hgr hkq
            go_roundg gk'
            case measure => omega
            case rel => exact ⟨k + 1, dn ++ [⟨sk, [v0, v1, v2, v3, v4, v5], sw⟩], p', rfl, by omega, by omega, by omega, by simp [hdn], HNX.out, HSO.out.1, HP5.out, HS5.out, fun s hs => (List.mem_append.1 hs).elim (HD6.out s) (fun h => by rw [List.mem_singleton.1 h]; rfl), HB5.out, hq5⟩
        · have h96' : decide ((4096 : Int) ≤ (k : Int)) = true := decide_eq_true (by omega)
          have HR : Hid (parseS l en = .error (pl, 22)) := by unfold Hid; rw [HPS.out, HSG.out, preG_many HX.out (by omega)]
          go_upto_region 10 with fail
          (try rw [hV])
          clear hV
          go_wp2_with fail
          go_quiet (fail)
          have HE : Hid (ParsePost w (parseS l en) (.returned (.tuple #[.slice none 0 0, .int .i64 pl, .int .i64 22])) (V.drewN nq)) := by
            unfold Hid
            rw [HR.out]
            exact ⟨((HB2.out.trans HW3.out).at (by have := HB2.out.size; have := HQ.out; omega) HBL.out).trans (HWV.out.drewN _), rfl⟩
          go_wp2
          exact bodyPost_ret (v := .tuple #[.slice none 0 0, .int .i64 pl, .int .i64 22]) (by simp [results, Tryd.results39, go_sem]) rfl HE.out
      · obtain rfl : k = ps.length := by omega
        have HFIN : Hid (parseS l en = .ok dn) := by
          unfold Hid
          rw [HPS.out, HSG.out, List.drop_length]
          simp [segsS, preG]
        have HE : Hid (ParsePost w (parseS l en) (.returned (.tuple #[u9, .int .i64 0, .int .i64 0])) wr) := by
          unfold Hid
          rw [HFIN.out]
          exact ⟨(HB2.out.trans HW3.out).at (by have := HB2.out.size; have := HQ.out; omega) HBL.out, u9, rfl, own_base HSR.out (by have := HB2.out.size; have := HQ.out; omega)⟩
        obtain ⟨op, oc, rfl, _⟩ := SRow.form HSR.out
        go_wp2
        exact bodyPost_ret (v := .tuple #[.slice op dn.length oc, .int .i64 0, .int .i64 0]) (by simp [results, Tryd.results39, go_sem]) rfl HE.out
end Go.Proofs.YtefajplbgmikdaaDoor
