/-
  The walk of a line's cmd.
-/
import Derived.Test.YtefajplbgmikdaaDoorCmj13
import Derived.Test.YtefajplbgmikdaaDoorCmj10
import Derived.Test.YtefajplbgmikdaaDoorCmj14
namespace Go.Proofs.YtefajplbgmikdaaDoor
open Go.RowKit

def CmdV (c : Cm) (nv pv : Value) : Value := .agg #[.int .i64 c.kind, nv, pv, .int .i64 c.place]
/-- What cmd tells of a line that was read. -/
def CmPost (w : World) (y : Ln) (e : Ending) (w' : World) : Prop :=
  Bel w w' ∧ match cmdC y with
  | .ok c => ∃ nv pv, e = .returned (.tuple #[.agg #[.int .i64 c.kind, nv, pv, .int .i64 c.place], .pointer none]) ∧ w'.ownsRow w.heap.size 2 1 nv c.n.length (c.n.map fun x => .int .i64 x) ∧ SRow w' w.heap.size pv c.path ∧ ∀ s ∈ c.path, s.v.length = 6
  | .error (a, ec) => ∃ p n c b, e = .returned (.tuple #[.agg #[.int .i64 y.kind, .slice p n c, .slice none 0 0, .int .i64 y.place], .pointer (some ⟨b, 0, none⟩)]) ∧ w'.heap[b]? = some (.cells #[.int .i64 a, .int .i64 ec] 99 (0, 0))
/-- The call's own boxes. -/
structure Bx2 (w wx : World) (R C : Nat) (kn : Nat) (pl : Int) (nv pv : Value) : Prop where
  bel : Bel w wx
  r : ∃ cs : Array Value, wx.heap[R]? = some (.cells cs 73 (0, 0)) ∧ cs.size = 4
  c : wx.heap[C]? = some (.cells #[.int .i64 kn, nv, pv, .int .i64 pl] 73 (0, 0))
  lr : w.heap.size ≤ R
  lc : w.heap.size ≤ C
  ne : R ≠ C
theorem Bx2.on {w wx wy : World} {R C kn : Nat} {pl : Int} {nv pv : Value} (h : Bx2 w wx R C kn pl nv pv) (hb : Bel wx wy) : Bx2 w wy R C kn pl nv pv := by
  obtain ⟨h1, ⟨cs, h2, h2s⟩, h3, h4, h5, h6⟩ := h
  exact ⟨h1.trans hb, ⟨cs, hb.heap h2, h2s⟩, hb.heap h3, h4, h5, h6⟩
theorem set4 {w : World} {R : Nat} {cs : Array Value} {t : TypeId} (h : w.heap[R]? = some (.cells cs t (0, 0))) (hs : cs.size = 4) (a b c d : Value) :
    ((((w.setCell ⟨R, 0, none⟩ a).setCell ⟨R, 1, none⟩ b).setCell ⟨R, 2, none⟩ c).setCell ⟨R, 3, none⟩ d).heap[R]? = some (.cells #[a, b, c, d] t (0, 0)) := by
  obtain ⟨z0, z1, z2, z3, rfl⟩ : ∃ z0 z1 z2 z3, cs = #[z0, z1, z2, z3] := by
    match cs, hs with
    | ⟨[a, b, c, d]⟩, _ => exact ⟨a, b, c, d, rfl⟩
  exact heap_set (heap_set (heap_set (heap_set h 0 a) 1 b) 2 c) 3 d
theorem cells4 {w : World} {R : Nat} {cs : Array Value} {t : TypeId} (h : w.heap[R]? = some (.cells cs t (0, 0))) (hs : cs.size = 4) : (∃ u, w.cell? ⟨R, 0, none⟩ = some u) ∧ (∃ u, w.cell? ⟨R, 1, none⟩ = some u) ∧ (∃ u, w.cell? ⟨R, 2, none⟩ = some u) ∧ (∃ u, w.cell? ⟨R, 3, none⟩ = some u) := by
  refine ⟨⟨cs[0], ?_⟩, ⟨cs[1], ?_⟩, ⟨cs[2], ?_⟩, ⟨cs[3], ?_⟩⟩ <;> (rw [heap_cell h]; simp)
theorem Bx2.all {w wx : World} {R C kn : Nat} {pl : Int} {nv pv : Value} (h : Bx2 w wx R C kn pl nv pv) :
    (wx.cell? ⟨C, 0, none⟩ = some (.int .i64 kn) ∧ wx.cell? ⟨C, 1, none⟩ = some nv ∧ wx.cell? ⟨C, 2, none⟩ = some pv ∧ wx.cell? ⟨C, 3, none⟩ = some (.int .i64 pl)) ∧ (∀ j, wx.frozen? ⟨C, j, none⟩ = false) ∧
    (∃ u0 u1 u2 u3, wx.cell? ⟨R, 0, none⟩ = some u0 ∧ wx.cell? ⟨R, 1, none⟩ = some u1 ∧ wx.cell? ⟨R, 2, none⟩ = some u2 ∧ wx.cell? ⟨R, 3, none⟩ = some u3) ∧ (∀ j, wx.frozen? ⟨R, j, none⟩ = false) := by
  obtain ⟨h1, ⟨cs, h2, h2s⟩, h3, h4, h5, h6⟩ := h
  obtain ⟨⟨u0, r0⟩, ⟨u1, r1⟩, ⟨u2, r2⟩, ⟨u3, r3⟩⟩ := cells4 h2 h2s
  exact ⟨⟨by rw [heap_cell h3]; rfl, by rw [heap_cell h3]; rfl, by rw [heap_cell h3]; rfl, by rw [heap_cell h3]; rfl⟩, fun j => heap_frozen h3 j, ⟨u0, u1, u2, u3, r0, r1, r2, r3⟩, fun j => heap_frozen h2 j⟩
theorem Bx2.setPath {w wx : World} {R C kn : Nat} {pl : Int} {nv pv : Value} (h : Bx2 w wx R C kn pl nv pv) (v : Value) : Bx2 w (wx.setCell ⟨C, 2, none⟩ v) R C kn pl nv v := by
  obtain ⟨h1, ⟨cs, h2, h2s⟩, h3, h4, h5, h6⟩ := h
  exact ⟨h1.set h5 _, ⟨cs, (Below.heap_setCell _ _ _ _ h6).trans h2, h2s⟩, heap_set h3 2 v, h4, h5, h6⟩
theorem Bx2.setNum {w wx : World} {R C kn : Nat} {pl : Int} {nv pv : Value} (h : Bx2 w wx R C kn pl nv pv) (v : Value) : Bx2 w (wx.setCell ⟨C, 1, none⟩ v) R C kn pl v pv := by
  obtain ⟨h1, ⟨cs, h2, h2s⟩, h3, h4, h5, h6⟩ := h
  exact ⟨h1.set h5 _, ⟨cs, (Below.heap_setCell _ _ _ _ h6).trans h2, h2s⟩, heap_set h3 1 v, h4, h5, h6⟩
/-- The world behind the result's own box. -/
theorem Bx2.out {w wx : World} {R C kn : Nat} {pl : Int} {nv pv : Value} (h : Bx2 w wx R C kn pl nv pv) (a b c d : Value) :
    Bel w ((((wx.setCell ⟨R, 0, none⟩ a).setCell ⟨R, 1, none⟩ b).setCell ⟨R, 2, none⟩ c).setCell ⟨R, 3, none⟩ d) ∧
    (((((wx.setCell ⟨R, 0, none⟩ a).setCell ⟨R, 1, none⟩ b).setCell ⟨R, 2, none⟩ c).setCell ⟨R, 3, none⟩ d).heap[R]? = some (.cells #[a, b, c, d] 73 (0, 0))) ∧
    ∀ k, k ≠ R → ((((wx.setCell ⟨R, 0, none⟩ a).setCell ⟨R, 1, none⟩ b).setCell ⟨R, 2, none⟩ c).setCell ⟨R, 3, none⟩ d).heap[k]? = wx.heap[k]? := by
  obtain ⟨h1, ⟨cs, h2, h2s⟩, h3, h4, h5, h6⟩ := h
  refine ⟨(((h1.set h4 _).set h4 _).set h4 _).set h4 _, set4 h2 h2s a b c d, fun k hk => ?_⟩
  rw [Below.heap_setCell _ _ _ _ hk, Below.heap_setCell _ _ _ _ hk, Below.heap_setCell _ _ _ _ hk, Below.heap_setCell _ _ _ _ hk]
/-- The world behind the result's own box and an error's. -/
def errW (wx : World) (R : Nat) (a b c d : Value) (x y : Int) : World := (((((wx.setCell ⟨R, 0, none⟩ a).setCell ⟨R, 1, none⟩ b).setCell ⟨R, 2, none⟩ c).setCell ⟨R, 3, none⟩ d).alloc (.cells #[.int .i64 x, .int .i64 y] 99)).drew
theorem Bx2.err {w wx : World} {R C kn : Nat} {pl : Int} {nv pv : Value} (h : Bx2 w wx R C kn pl nv pv) (a b c d : Value) (x y : Int) :
    Bel w (errW wx R a b c d x y) ∧ (errW wx R a b c d x y).heap[R]? = some (.cells #[a, b, c, d] 73 (0, 0)) ∧ (errW wx R a b c d x y).heap[wx.heap.size]? = some (.cells #[.int .i64 x, .int .i64 y] 99 (0, 0)) := by
  obtain ⟨h1, h2, _⟩ := h.out a b c d
  refine ⟨(h1.alloc _).drew, heap_push_of h2 _, ?_⟩
  have := heap_alloc_new ((((wx.setCell ⟨R, 0, none⟩ a).setCell ⟨R, 1, none⟩ b).setCell ⟨R, 2, none⟩ c).setCell ⟨R, 3, none⟩ d) (.cells #[.int .i64 x, .int .i64 y] 99 (0, 0))
  simp only [World.size_setCell] at this
  exact this
theorem numrow_lit {w : World} {g : Nat} {cs : Array Value} {n : List Int} {c : Nat} (h : w.heap[g]? = some (.cells cs 2 (0, 0))) (hc : n.length ≤ c) (hcs : cs.toList.take n.length = n.map fun x => .int .i64 x) : NumRow w (.slice (some ⟨g, 0, none⟩) n.length c) n :=
  ⟨some ⟨g, 0, none⟩, c, rfl, hc, fun _ => ⟨g, 0, rfl, fun j x hj => by
    rw [heap_cell h, Nat.zero_add, ← Array.getElem?_toList]
    have h2 : (cs.toList.take n.length)[j]? = some (.int .i64 x) := by rw [hcs, List.getElem?_map, hj]; rfl
    rw [List.getElem?_take] at h2
    split at h2
    · exact h2
    · cases h2⟩⟩
theorem own_lit1 {w : World} {g base : Nat} {x : Int} (h : w.heap[g]? = some (.cells #[.int .i64 x] 2 (0, 0))) (hb : base ≤ g) : w.ownsRow base 2 1 (.slice (some ⟨g, 0, none⟩) 1 1) 1 [.int .i64 x] :=
  ⟨rfl, .inr ⟨g, 1, _, rfl, hb, h, Nat.le_refl _, by decide, rfl, rfl⟩⟩
theorem nums_line {k : Nat} {r : List Tok} {en : Int} (hb : badS k r en < 0) (hp : pathK k = false) (hw : wordsK k = []) (hen : 0 ≤ en) (hpl : Pl r) :
    (spansK k r.length).length = r.length ∧ (dashK k = true → r.length = 0 ∨ 3 ≤ r.length) ∧ (dashK k = false → r.length = countC k) := by
  unfold badS at hb
  rw [if_neg (by simp [hp])] at hb
  by_cases hd : dashK k = true
  · rw [if_pos hd] at hb
    refine ⟨(dash_words hd).2.2 _, fun _ => ?_, fun e => absurd e (by simp [hd])⟩
    split at hb
    · omega
    · rename_i hh
      by_cases h0 : r.length = 0
      · exact .inl h0
      · right
        by_cases h3 : 3 ≤ r.length
        · exact h3
        · exact absurd ⟨hb, by omega, .inl (by omega)⟩ hh
  · have hd' : dashK k = false := by simpa using hd
    rw [if_neg hd, if_neg (by simp [hw])] at hb
    have := (only_facts hen hb hpl (Nat.zero_le _)).2
    exact ⟨by rw [spans_len k _ hw hp hd']; omega, fun e => absurd e (by simp [hd']), fun _ => by omega⟩
theorem infoI64 : (Tryd.prog.info? 2).map (fun i => (i.zero, i.size, i.bytes)) = some (some (.int .i64 0), 1, 8) := by kernel_rfl
theorem Bx2.push {w V w5 : World} {R C kn B : Nat} {pl : Int} {nv pv : Value} {e size n : Nat} {xs : List Value} (h : Bx2 w V R C kn pl nv pv) (ho : V.ownsRow B e size nv n xs) (hC : C < B) (hR : R < B) (_ : w.heap.size ≤ B) (hg : V.grownBy w5 nv.ownBlock) : Bx2 w w5 R C kn pl nv pv := by
  obtain ⟨h1, ⟨cs, h2, h2s⟩, h3, h4, h5, h6⟩ := h
  have hb : ∀ k, k < B → some k ≠ nv.ownBlock := fun k hk e => by have := (ho.lt k e.symm).1; omega
  exact ⟨But.bel h1 hg (fun k hk => by have := (ho.lt k hk).1; omega), ⟨cs, (hg.block R (heap_lt h2) (hb R hR)).trans h2, h2s⟩, (hg.block C (heap_lt h3) (hb C hC)).trans h3, h4, h5, h6⟩
theorem grown_push {wc wr W w5 : World} {C e size n : Nat} {nv : Value} {xs : List Value} (hgr : wc.grownBy wr (some C)) (hb : Bel wr W) (ho : W.ownsRow wc.heap.size e size nv n xs) (hg : W.grownBy w5 nv.ownBlock) : wc.grownBy w5 (some C) := by
  have h1 := grown_trans hgr (bel_grown hb (some C))
  exact ⟨hg.os.trans h1.os, hg.tape.trans h1.tape, hg.output.trans h1.output, Nat.le_trans h1.size hg.size, fun k hk hne => (hg.block k (Nat.lt_of_lt_of_le hk h1.size) (fun e => by have := (ho.lt k e.symm).1; omega)).trans (h1.block k hk hne)⟩
theorem numrow_own {w : World} {base n : Nat} {v : Value} {l : List Int} (h : w.ownsRow base 2 1 v n (l.map fun x => .int .i64 x)) (hn : n = l.length) : NumRow w v l := by
  subst hn
  obtain ⟨hlen, h0 | ⟨g, cap, cur, rfl, hb, hg, hc, _, hsz, ht⟩⟩ := h
  · have : l = [] := List.eq_nil_of_length_eq_zero h0.2
    subst this
    exact ⟨none, 0, h0.1, Nat.le_refl _, fun e => absurd rfl e⟩
  · refine numrow_lit hg hc ?_
    simpa using ht
def pre21 (a : List Int) : Except Int (List Int) → Except Int (List Int)
  | .ok l => .ok (a ++ l)
  | .error e => .error e
theorem idx_words (s : List UInt8) : ∀ (l : List (List UInt8)) (i : Nat), Lib.idxFromS (l.map fun x => (⟨x.toArray⟩ : ByteArray)) ⟨s.toArray⟩ i = idxW s l i
  | [], _ => rfl
  | x :: l, i => by
    rw [List.map_cons, Lib.idxFromS, idxW, idx_words s l (i + 1)]
    by_cases h : s = x
    · rw [if_pos h, if_pos (by rw [h])]
    · rw [if_neg h, if_neg]
      intro e
      apply h
      have := congrArg (fun b : ByteArray => b.data.toList) e
      simpa using this.symm
theorem words_line {k : Nat} {r : List Tok} {en : Int} (hb : badS k r en < 0) (hp : pathK k = false) (hd : dashK k = false) (hw : wordsK k ≠ []) (hen : 0 ≤ en) (hpl : Pl r) : ∃ t r2, r = t :: r2 ∧ t.s ∈ wordsK k := by
  unfold badS at hb
  rw [if_neg (by simp [hp]), if_neg (by simp [hd]), if_pos hw] at hb
  cases r with
  | nil => simp [onlyS] at hb; omega
  | cons t r2 =>
    refine ⟨t, r2, rfl, ?_⟩
    dsimp only at hb
    by_cases h : t.s ∈ wordsK k
    · exact h
    · rw [if_neg h] at hb
      have := hpl t (by simp)
      omega
set_option maxHeartbeats 4000000 in
set_option maxRecDepth 100000 in
theorem cmdLine_any (G o : Nat) (first : Bool) (kn : Nat) (pl en : Int) (r : List Tok) (lv : Value) (w : World) (hy : LnOk first ⟨kn, pl, r, en⟩)
    (g0 : w.cell? ⟨G, o, none⟩ = some (.int .i64 kn)) (g1 : w.cell? ⟨G, o + 1, none⟩ = some (.int .i64 pl)) (g2 : w.cell? ⟨G, o + 2, none⟩ = some lv) (g3 : w.cell? ⟨G, o + 3, none⟩ = some (.int .i64 en))
    (htk : TokRow w w.heap.size lv r) (hok : ∀ x ∈ r, TkOk x) (hwt : wt r ≤ 800000000) (hr : Rul w) (hg : 2 < w.heap.size) :
    Calls Tryd.prog 53 #[.pointer (some ⟨G, o, none⟩)] w (CmPost w ⟨kn, pl, r, en⟩) := by
  obtain ⟨⟨hk1, hk15, hkf⟩, hbad, hen, hpl⟩ := hy
  dsimp only at hk1 hk15 hkf hbad hen hpl
  have hk16 : kn < 16 := by omega
  have HTK := Lib.hid htk
  have HOK := Lib.hid hok
  have HR := Lib.hid hr
  have HWT := Lib.hid hwt
  have HBAD := Lib.hid hbad
  have HPL := Lib.hid hpl
  obtain ⟨lp, lc, rfl, hlc, _⟩ := htk
  have hGR : G < w.heap.size := World.block_lt_of_cell? w _ g0
  have HGR := Lib.hid hGR
  have G0 := Lib.hid g0
  have G1 := Lib.hid g1
  have G2 := Lib.hid g2
  clear hok hr hwt hbad hpl hkf hGR
  obtain ⟨R, hRd⟩ : ∃ R, w.heap.size = R := ⟨_, rfl⟩
  obtain ⟨W, hW⟩ : ∃ W, w.alloc (.cells #[.int .i64 0, .slice none 0 0, .slice none 0 0, .int .i64 0] 73) = W := ⟨_, rfl⟩
  have HBW : Hid (Bel w W) := hW ▸ (Bel.refl w).alloc _
  have HRW : Hid (W.heap[R]? = some (.cells #[.int .i64 0, .slice none 0 0, .slice none 0 0, .int .i64 0] 73 (0, 0))) := hRd ▸ hW ▸ heap_alloc_new _ _
  have hWs : W.heap.size = R + 1 := by rw [← hW, ← hRd]; simp
  go_enter Tryd.func53, Tryd.ntmps53
  go_upto_region 1 with fail
  go_cut [4] from 12 to 159 (fun s4 wx => ∃ C, s4 = .pointer (some ⟨C, 0, none⟩) ∧ Bx2 w wx R C kn pl (.slice none 0 0) (.slice none 0 0))
  case first =>
    have a0 : W.drew.cell? ⟨G, o, none⟩ = some (.int .i64 kn) := HBW.out.cell g0
    have a1 : W.drew.cell? ⟨G, o + 1, none⟩ = some (.int .i64 pl) := HBW.out.cell g1
    have b0 : ∀ ob, (W.alloc ob).drew.cell? ⟨G, o, none⟩ = some (.int .i64 kn) := fun ob => (HBW.out.alloc ob).cell g0
    have b1 : ∀ ob, (W.alloc ob).drew.cell? ⟨G, o + 1, none⟩ = some (.int .i64 pl) := fun ob => (HBW.out.alloc ob).cell g1
    have b2 : ∀ ob, (W.alloc ob).cell? ⟨G, o, none⟩ = some (.int .i64 kn) := b0
    have b3 : ∀ ob, (W.alloc ob).cell? ⟨G, o + 1, none⟩ = some (.int .i64 pl) := b1
    have hfin : Bx2 w (W.alloc (.cells #[.int .i64 kn, .slice none 0 0, .slice none 0 0, .int .i64 pl] 73)).drew R (R + 1) kn pl (.slice none 0 0) (.slice none 0 0) := by
      refine ⟨(HBW.out.alloc _).drew, ⟨_, heap_push_of HRW.out _, rfl⟩, ?_, by omega, by omega, by omega⟩
      have := heap_alloc_new W (.cells #[.int .i64 kn, .slice none 0 0, .slice none 0 0, .int .i64 pl] 73 (0, 0))
      rw [hWs] at this
      exact this
    have HFIN := Lib.hid hfin
    clear hfin
    go_region_law (fail)
    all_goals
      go_wp2
      go_meet
      exact ⟨R + 1, rfl, HFIN.out⟩
  case rest =>
  obtain ⟨C, rfl, hbx⟩ := hcut
  have HBX := Lib.hid hbx
  clear hbx hWs hW
  replace g0 := HBX.out.bel.cell g0
  replace g1 := HBX.out.bel.cell g1
  replace g2 := HBX.out.bel.cell g2
  replace g3 := HBX.out.bel.cell g3
  go_upto_region 2 with fail
  go_cut [5] from 21 to 159 (fun s5 wx => ∃ KB a b c, s5 = .pointer (some ⟨KB, 0, none⟩) ∧ KBox wx KB a b c kn ∧ Bel wc wx)
  case first =>
    have e0 : wc.drew.cell? ⟨G, o, none⟩ = some (.int .i64 kn) := g0
    have e4 : ∀ ob, (wc.alloc ob).cell? ⟨G, o, none⟩ = some (.int .i64 kn) := fun ob => ((Bel.refl wc).alloc ob).cell g0
    have e1 : ∀ ob, (wc.alloc ob).drew.cell? ⟨G, o, none⟩ = some (.int .i64 kn) := e4
    have e5 : ∀ ob, (wc.alloc ob).drew.heap[wc.heap.size]? = some ob := fun ob => heap_alloc_new wc ob
    go_region_law (first
      | (go_simp; go_at_call 40; (with_reducible refine (kinds_any _).mono ?_); rintro e w3 ⟨hb3, a, b, c', rfl, hwrd⟩; have hix := kind_at a b c' kn hk16; (obtain ⟨wp, wl, wm, hwv⟩ := wordsV_form a b c' kn); rw [hwv] at hix; (first
          | (have e2 := hb3.cell e0; have e3 : ∀ ob, (w3.alloc ob).cell? ⟨G, o, none⟩ = some (.int .i64 kn) := fun ob => ((Bel.refl w3).alloc ob).cell e2)
          | (have e2 := hb3.cell (e1 _); have hz := hb3.heap (e5 _); have z0 := heap_cell hz 0; have z1 := heap_cell hz 1; have z2 := heap_cell hz 2; have z3 := heap_cell hz 3; have z4 := heap_cell hz 4; have zf := heap_frozen hz)); generalize (kindsV a b c').toArray = KA at hix ⊢))
    all_goals
      go_wp2
      go_meet
      first
        | (have h9 := kbox_new (W := wc) ((Bel.refl wc).drew.trans hb3) hwrd hwv; exact ⟨_, _, _, _, rfl, h9.1, h9.2⟩)
        | (have h9 := kbox_set (W := wc) (((Bel.refl wc).alloc _).drew.trans hb3) (Nat.le_refl _) rfl hz hwrd hwv; exact ⟨_, _, _, _, rfl, h9.1, h9.2⟩)
  case rest =>
  obtain ⟨KB, ka, kb, kc, rfl, hkb, hbk⟩ := hcut
  replace g0 := hbk.cell g0
  replace g1 := hbk.cell g1
  replace g2 := hbk.cell g2
  replace g3 := hbk.cell g3
  have z2 : wc.cell? ⟨KB, 2, none⟩ = some (wordsV ka kb kc kn) := by rw [heap_cell hkb.1]; rfl
  have z3 : wc.cell? ⟨KB, 3, none⟩ = some (.bool (pathK kn)) := by rw [heap_cell hkb.1]; rfl
  have z4 : wc.cell? ⟨KB, 4, none⟩ = some (.bool (dashK kn)) := by rw [heap_cell hkb.1]; rfl
  have HX := Lib.hid (HBX.out.on hbk)
  have HBA : Hid (Bel w wc) := HBX.out.bel.trans hbk
  have HKW := Lib.hid hkb.2
  have HRU := Lib.hid (HBA.out.rul HR.out)
  have HTA := Lib.hid ((HTK.out.below (Below.mono HBA.out (Nat.le_refl _))).mono HBA.out.size)
  have hgs : 2 < wc.heap.size := Nat.lt_of_lt_of_le hg HBA.out.size
  clear hkb hbk
  cases hpk : pathK kn with
  | true =>
    rw [hpk] at z3
    have g2d : wc.drew.cell? ⟨G, o + 2, none⟩ = some (.slice lp r.length lc) := g2
    have g3d : wc.drew.cell? ⟨G, o + 3, none⟩ = some (.int .i64 en) := g3
    have HP := Lib.hid (parse_any r (.slice lp r.length lc) en wc.drew (HTA.out.below (Below.mono (Bel.refl wc).drew (Nat.le_refl _))) HOK.out HWT.out ((Bel.refl wc).drew.rul HRU.out) hgs)
    cases hps : parseS r en with
    | ok pp =>
      have HC : Hid (cmdC ⟨kn, pl, r, en⟩ = .ok ⟨kn, [], pp, pl⟩) := by unfold Hid cmdC; rw [if_pos hpk, hps]
      have h6 : ∀ s ∈ pp, s.v.length = 6 := fun s hs => ((parse_good hps).2 s hs).1
      clear hpk
      go_upto_region 4 with fail
      go_region_law (first
        | (go_simp; go_at_call 39; (with_reducible refine (HP.out).mono ?_); rintro e w9 hpo; unfold ParsePost at hpo; rw [hps] at hpo; obtain ⟨hb9, v9, rfl, hs9⟩ := hpo; have HB9 := Lib.hid ((Bel.refl wc).drew.trans hb9); (obtain ⟨pp9, pc9, rfl, _⟩ := hs9.form); have HS9 := Lib.hid hs9; clear hb9 hs9))
      all_goals
        have HX9 := Lib.hid (HX.out.on HB9.out)
        obtain ⟨⟨c0, c1, c2, c3⟩, cf, _, _⟩ := HX9.out.all
        go_upto_region 8 with fail
        have HY := Lib.hid (HX9.out.setPath (.slice pp9 pp.length pc9))
        have hCl : C < wc.heap.size := heap_lt HX.out.c
        have hRl : R < wc.heap.size := by obtain ⟨cs, h, _⟩ := HX.out.r; exact heap_lt h
        have HSY : Hid (SRow (w9.setCell ⟨C, 2, none⟩ (.slice pp9 pp.length pc9)) wc.drew.heap.size (.slice pp9 pp.length pc9) pp) :=
          own_keep HS9.out fun k hk => Below.heap_setCell _ _ _ _ (by have : wc.heap.size ≤ k := (HS9.out.lt k hk).1; show k ≠ C; omega)
        generalize w9.setCell ⟨C, 2, none⟩ (.slice pp9 pp.length pc9) = V1 at HY HSY ⊢
        clear c0 c1 c2 c3 cf
        obtain ⟨⟨c0, c1, c2, c3⟩, cf, ⟨u0, u1, u2, u3, r0, r1, r2, r3⟩, rf⟩ := HY.out.all
        go_wp2
        obtain ⟨hbX, hRX, hoX⟩ := HY.out.out (.int .i64 kn) (.slice none 0 0) (.slice pp9 pp.length pc9) (.int .i64 pl)
        have hsX : SRow ((((V1.setCell ⟨R, 0, none⟩ (.int .i64 kn)).setCell ⟨R, 1, none⟩ (.slice none 0 0)).setCell ⟨R, 2, none⟩ (.slice pp9 pp.length pc9)).setCell ⟨R, 3, none⟩ (.int .i64 pl)) wc.drew.heap.size (.slice pp9 pp.length pc9) pp :=
          own_keep HSY.out fun k hk => hoX k (by have : wc.heap.size ≤ k := (HSY.out.lt k hk).1; omega)
        generalize ((((V1.setCell ⟨R, 0, none⟩ (.int .i64 kn)).setCell ⟨R, 1, none⟩ (.slice none 0 0)).setCell ⟨R, 2, none⟩ (.slice pp9 pp.length pc9)).setCell ⟨R, 3, none⟩ (.int .i64 pl)) = X at hbX hRX hoX hsX ⊢
        have x0 := heap_cell hRX 0
        have x1 := heap_cell hRX 1
        have x2 := heap_cell hRX 2
        have x3 := heap_cell hRX 3
        refine bodyPost_ret (v := .tuple #[.agg #[.int .i64 kn, .slice none 0 0, .slice pp9 pp.length pc9, .int .i64 pl], .pointer none]) (by simp [results, Tryd.results53, go_sem, x0, x1, x2, x3]) rfl ?_
        refine ⟨hbX, ?_⟩
        rw [HC.out]
        exact ⟨_, _, rfl, World.ownsRow_nil _ _ _ _, own_base hsX HBA.out.size, h6⟩
    | error ae =>
      obtain ⟨a9, c9⟩ := ae
      have hc9 : (c9 != 0) = true := by
        rcases parse_code hps hen HPL.out with ⟨h, _⟩ | h | h <;> (rw [h]; rfl)
      have hc9' : (c9 == 0) = false := by
        rcases parse_code hps hen HPL.out with ⟨h, _⟩ | h | h <;> (rw [h]; rfl)
      have HC : Hid (cmdC ⟨kn, pl, r, en⟩ = .error (a9, c9)) := by unfold Hid cmdC; rw [if_pos hpk, hps]
      clear hpk
      go_upto_region 4 with fail
      go_region_law (first
        | (go_simp; go_at_call 39; (with_reducible refine (HP.out).mono ?_); rintro e w9 hpo; unfold ParsePost at hpo; rw [hps] at hpo; obtain ⟨hb9, rfl⟩ := hpo; have HB9 := Lib.hid ((Bel.refl wc).drew.trans hb9); clear hb9))
      all_goals
        have HX9 := Lib.hid (HX.out.on HB9.out)
        obtain ⟨⟨c0, c1, c2, c3⟩, cf, _, _⟩ := HX9.out.all
        have HXA := Lib.hid (HX9.out.on ((Bel.refl w9).alloc (.cells #[.int .i64 a9, .int .i64 c9] 99)))
        have hnew : (w9.alloc (.cells #[.int .i64 a9, .int .i64 c9] 99)).heap[w9.heap.size]? = some (.cells #[.int .i64 a9, .int .i64 c9] 99 (0, 0)) := heap_alloc_new _ _
        obtain ⟨_, _, ⟨u0, u1, u2, u3, r0, r1, r2, r3⟩, rf⟩ := HXA.out.all
        have hRn : w9.heap.size ≠ R := by obtain ⟨cs, h, _⟩ := HX9.out.r; have := heap_lt h; omega
        have HNEW := Lib.hid hnew
        clear hnew
        obtain ⟨VA, hVA⟩ : ∃ VA, w9.alloc (.cells #[.int .i64 a9, .int .i64 c9] 99) = VA := ⟨_, rfl⟩
        rw [hVA] at HXA HNEW r0 r1 r2 r3 rf
        go_wp2
        obtain ⟨hbX, hRX, hoX⟩ := HXA.out.out (.int .i64 kn) (.slice none 0 0) (.slice none 0 0) (.int .i64 pl)
        generalize ((((VA.setCell ⟨R, 0, none⟩ (.int .i64 kn)).setCell ⟨R, 1, none⟩ (.slice none 0 0)).setCell ⟨R, 2, none⟩ (.slice none 0 0)).setCell ⟨R, 3, none⟩ (.int .i64 pl)) = X at hbX hRX hoX ⊢
        have x0 := heap_cell hRX 0
        have x1 := heap_cell hRX 1
        have x2 := heap_cell hRX 2
        have x3 := heap_cell hRX 3
        refine bodyPost_ret (v := .tuple #[.agg #[.int .i64 kn, .slice none 0 0, .slice none 0 0, .int .i64 pl], .pointer (some ⟨w9.heap.size, 0, none⟩)]) (by simp [results, Tryd.results53, go_sem, x0, x1, x2, x3]) rfl ?_
        refine ⟨hbX, ?_⟩
        rw [HC.out]
        exact ⟨_, _, _, _, rfl, (hoX _ hRn).trans HNEW.out⟩
  | false =>
    rw [hpk] at z3
    by_cases hw : wordsK kn = []
    · have hwv := wordsV_nil (a := ka) (b := kb) (c := kc) hw
      rw [hwv] at z2
      obtain ⟨db, hdb⟩ : ∃ db, dashK kn = db := ⟨_, rfl⟩
      rw [hdb] at z4
      have hGR1 : ¬ G = R := by have := HGR.out; omega
      have hGR2 : ¬ R = G := by have := HGR.out; omega
      have HPK := Lib.hid hpk
      have HW := Lib.hid hw
      have HDB := Lib.hid hdb
      clear hpk hw hwv hdb
      by_cases hdl : db = true ∧ 17 < r.length
      · obtain ⟨rfl, h17⟩ := hdl
        have HC : Hid (cmdC ⟨kn, pl, r, en⟩ = .error (pl, 22)) := by
          unfold Hid cmdC
          rw [if_neg (by simp [HPK.out]), if_neg (by simp [HW.out]), if_pos ⟨HDB.out, h17⟩]
        have hRl : R < wc.heap.size := by obtain ⟨cs, h, _⟩ := HX.out.r; exact heap_lt h
        obtain ⟨⟨c0, c1, c2, c3⟩, cf, ⟨u0, u1, u2, u3, r0, r1, r2, r3⟩, rf⟩ := (HX.out.on (Bel.refl wc).drew).all
        have hCl : C < wc.heap.size := heap_lt HX.out.c
        have hGl : G < wc.heap.size := World.block_lt_of_cell? wc _ g0
        have hRC : ¬ R = C := HX.out.ne
        have hRC2 : ¬ C = R := fun e => HX.out.ne e.symm
        have cw0 : wc.cell? ⟨C, 0, none⟩ = some (.int .i64 kn) := c0
        have cw1 : wc.cell? ⟨C, 1, none⟩ = some (.slice none 0 0) := c1
        have cw2 : wc.cell? ⟨C, 2, none⟩ = some (.slice none 0 0) := c2
        have cw3 : wc.cell? ⟨C, 3, none⟩ = some (.int .i64 pl) := c3
        have rw0 : wc.cell? ⟨R, 0, none⟩ = some u0 := r0
        have rw1 : wc.cell? ⟨R, 1, none⟩ = some u1 := r1
        have rw2 : wc.cell? ⟨R, 2, none⟩ = some u2 := r2
        have rw3 : wc.cell? ⟨R, 3, none⟩ = some u3 := r3
        have rwf : ∀ j, wc.frozen? ⟨R, j, none⟩ = false := rf
        have g1d : wc.drew.cell? ⟨G, o + 1, none⟩ = some (.int .i64 pl) := g1
        obtain ⟨X, hX⟩ : ∃ X, errW wc R (.int .i64 kn) (.slice none 0 0) (.slice none 0 0) (.int .i64 pl) pl 22 = X := ⟨_, rfl⟩
        obtain ⟨hbX, hRX, hNX⟩ := HX.out.err (.int .i64 kn) (.slice none 0 0) (.slice none 0 0) (.int .i64 pl) pl 22
        rw [hX] at hbX hRX hNX
        unfold errW at hX
        have HEQ := Lib.hid hX
        have HBX2 := Lib.hid hbX
        have HRX := Lib.hid hRX
        have HNX := Lib.hid hNX
        clear hX hbX hRX hNX
        go_upto_region 13 with fail
        go_region_law (fail)
        all_goals
          rw [HEQ.out]
          go_wp2
          have x0 := heap_cell HRX.out 0
          have x1 := heap_cell HRX.out 1
          have x2 := heap_cell HRX.out 2
          have x3 := heap_cell HRX.out 3
          refine bodyPost_ret (v := .tuple #[.agg #[.int .i64 kn, .slice none 0 0, .slice none 0 0, .int .i64 pl], .pointer (some ⟨wc.heap.size, 0, none⟩)]) (by simp [results, Tryd.results53, go_sem, x0, x1, x2, x3]) rfl ?_
          refine ⟨HBX2.out, ?_⟩
          rw [HC.out]
          exact ⟨_, _, _, _, rfl, HNX.out⟩
      · obtain ⟨hspl, hdsh, hcnt⟩ := nums_line HBAD.out HPK.out HW.out hen HPL.out
        have hr17 : r.length ≤ 17 := by
          cases db with
          | true =>
            by_cases h : 17 < r.length
            · exact absurd ⟨rfl, h⟩ hdl
            · omega
          | false =>
            have h1 := hcnt HDB.out
            have h2 : countC kn ≤ 6 := by
              unfold countC
              rcases (by omega : kn = 0 ∨ kn = 1 ∨ kn = 2 ∨ kn = 3 ∨ kn = 4 ∨ kn = 5 ∨ kn = 6 ∨ kn = 7 ∨ kn = 8 ∨ kn = 9 ∨ kn = 10 ∨ kn = 11 ∨ kn = 12 ∨ kn = 13 ∨ kn = 14 ∨ kn = 15) with rfl | rfl | rfl | rfl | rfl | rfl | rfl | rfl | rfl | rfl | rfl | rfl | rfl | rfl | rfl | rfl <;> decide
            omega
        have HC : Hid (cmdC ⟨kn, pl, r, en⟩ = match numsC (spansK kn r.length) r with | .error a => .error (a, 21) | .ok n => if soundS kn n = true then .ok ⟨kn, n, [], pl⟩ else .error (pl, 21)) := by
          unfold Hid cmdC
          rw [if_neg (by simp [HPK.out]), if_neg (by simp [HW.out]), if_neg (fun e => hdl ⟨by rw [← HDB.out]; exact e.1, e.2⟩)]
          dsimp only
          cases numsC (spansK kn r.length) r <;> rfl
        have H2 : Hid (kn = 2 → r.length = 6) := fun e => by
          subst e
          exact hcnt rfl
        have H12 : Hid (kn = 12 → r.length = 0 ∨ 3 ≤ r.length) := fun e => by
          subst e
          exact hdsh rfl
        have HSPL := Lib.hid hspl
        clear hspl hdsh hcnt
        go_upto_region 12 with fail
        go_cut [77] from 27 to 159 (fun s77 wx => s77 = .bool false ∧ wc = wx)
        case first =>
          cases db with
          | true =>
            go_wp2
            go_meet
            exact ⟨by rw [decide_eq_false (by omega)], rfl⟩
          | false =>
            go_wp2
            go_meet
            exact ⟨rfl, rfl⟩
        case rest =>
        obtain ⟨rfl, rfl⟩ := hcut
        go_upto_region 14 with fail
        have g0d : wc.drew.cell? ⟨G, o, none⟩ = some (.int .i64 kn) := g0
        have g2d : wc.drew.cell? ⟨G, o + 2, none⟩ = some (.slice lp r.length lc) := g2
        have HSP := Lib.hid (spans_any kn hk15 r.length (by omega) wc.drew)
        go_cut [94, 95, 96] from 27 to 159 (fun s94 s95 s96 wx => ∃ sa sc, s94 = .slice sa r.length sc ∧ s95 = .int .i64 r.length ∧ s96 = .int .i64 0 ∧ SpRow wx (.slice sa r.length sc) (spansK kn r.length) ∧ Bel wc wx)
        case first =>
          go_region_law (first
            | (go_simp; go_at_call 66; (with_reducible refine (HSP.out).mono ?_); rintro e w2 ⟨hb2, sv, rfl, hsp⟩; have HB2 := Lib.hid ((Bel.refl wc).drew.trans hb2); have HS2 := Lib.hid hsp; (obtain ⟨sa, sc, rfl, _, _⟩ := hsp); rw [HSPL.out]; clear hb2))
          all_goals
            go_wp2
            go_meet
            exact ⟨sa, sc, rfl, rfl, rfl, by have := HS2.out; rw [HSPL.out] at this; exact this, HB2.out⟩
        case rest =>
        obtain ⟨sa, sc, rfl, rfl, rfl, hsp, hb2⟩ := hcut
        have HSR := Lib.hid hsp
        have HB2 := Lib.hid hb2
        have HXB := Lib.hid (HX.out.on hb2)
        clear hsp hb2 g0d g2d z2 z3 z4
        go_wp2
        go_loopg [96] r.length (fun gf s96 wx => ∃ (j : Nat) (nv : Value), s96 = .int .i64 j ∧ j ≤ r.length ∧ r.length ≤ j + gf ∧ Bx2 w wx R C kn pl nv (.slice none 0 0) ∧ wx.ownsRow wc.heap.size 2 1 nv j ((r.take j).map fun t => Value.int .i64 t.n) ∧ wc.grownBy wx (some C) ∧
          numsC (spansK kn r.length) r = pre21 ((r.take j).map Tok.n) (numsC ((spansK kn r.length).drop j) (r.drop j)))
        case atStart => exact ⟨0, .slice none 0 0, rfl, Nat.zero_le _, by omega, HXB.out, World.ownsRow_nil _ _ _ _, bel_grown (Bel.refl _) _, by rw [List.drop_zero, List.drop_zero, List.take_zero]; cases numsC (spansK kn r.length) r <;> rfl⟩
        case round =>
          obtain ⟨j, nv, rfl, hjr, hjg, hbx, hown, hgr, hrel⟩ := hrel
          have HJX := Lib.hid hbx
          have HOW := Lib.hid hown
          have HGW := Lib.hid hgr
          have HREL := Lib.hid hrel
          clear hbx hown hgr hrel
          by_cases hj : j < r.length
          · obtain ⟨gk', rfl⟩ : ∃ g, gk = g + 1 := ⟨gk - 1, by omega⟩
            obtain ⟨t, ht⟩ : ∃ t, r[j]? = some t := ⟨_, List.getElem?_eq_getElem hj⟩
            obtain ⟨s, hs⟩ : ∃ s, (spansK kn r.length)[j]? = some s := ⟨_, List.getElem?_eq_getElem (by rw [HSPL.out]; exact hj)⟩
            obtain ⟨b, oo, c', he, _, hbw, _, _, q2, q3⟩ := HTK.out.get ht
            simp only [Value.slice.injEq] at he
            obtain ⟨rfl, _, rfl⟩ := he
            replace q2 := HJX.out.bel.cell q2
            replace q3 := HJX.out.bel.cell q3
            have k1 := HJX.out.bel.cell G1.out
            have k2 := HJX.out.bel.cell G2.out
            obtain ⟨sa', sc', he2, _, h3⟩ := HSR.out
            obtain ⟨g, hg', cs, hgc, hcell⟩ := h3 (fun e => by rw [e] at hs; simp at hs)
            simp only [Value.slice.injEq] at he2
            obtain ⟨rfl, hcyc, rfl⟩ := he2
            clear hcyc
            subst hg'
            have hgC : g ≠ C := by
              rintro rfl
              have := HXB.out.c
              rw [hgc] at this
              cases this
            have hgw : wr.heap[g]? = some (.cells cs 131 (0, 0)) := (HGW.out.block g (heap_lt hgc) (fun e => hgC (by simpa using e))).trans hgc
            have s0 : wr.cell? ⟨g, j * 2, none⟩ = some (.int .i64 s.1) := by rw [heap_cell hgw]; exact (hcell j s hs).1
            have s1 : wr.cell? ⟨g, j * 2 + 1, none⟩ = some (.int .i64 s.2) := by rw [heap_cell hgw]; exact (hcell j s hs).2
            have HZ : Hid (numsC ((spansK kn r.length).drop j) (r.drop j) = if t.n < s.1 ∨ s.2 < t.n then .error t.place else match numsC ((spansK kn r.length).drop (j + 1)) (r.drop (j + 1)) with | .ok l => .ok (t.n :: l) | .error e => .error e) := by
              obtain ⟨hl1, e1⟩ := List.getElem?_eq_some_iff.1 ht
              obtain ⟨hl2, e2⟩ := List.getElem?_eq_some_iff.1 hs
              unfold Hid
              rw [List.drop_eq_getElem_cons hl1, List.drop_eq_getElem_cons hl2, e1, e2, numsC]
              by_cases hc : t.n < s.1 ∨ s.2 < t.n
              · rw [if_pos hc, if_pos hc]
              · rw [if_neg hc, if_neg hc]
                cases numsC ((spansK kn r.length).drop (j + 1)) (r.drop (j + 1)) <;> rfl
            have HTJ : Hid ((r.take (j + 1)).map Tok.n = (r.take j).map Tok.n ++ [t.n] ∧ (r.take (j + 1)).map (fun t => Value.int .i64 t.n) = (r.take j).map (fun t => Value.int .i64 t.n) ++ [.int .i64 t.n]) := by
              unfold Hid
              rw [List.take_add_one, ht]
              simp
            obtain ⟨V, hV⟩ : ∃ V, wr.alloc (.cells #[.int .i64 s.1, .int .i64 s.2] 131) = V := ⟨_, rfl⟩
            have hWV : Bel wr V := hV ▸ (Bel.refl wr).alloc _
            have hTV : V.heap[wr.heap.size]? = some (.cells #[.int .i64 s.1, .int .i64 s.2] 131 (0, 0)) := hV ▸ heap_alloc_new _ _
            have v0 : V.cell? ⟨wr.heap.size, 0, none⟩ = some (.int .i64 s.1) := by rw [heap_cell hTV]; rfl
            have v1 : V.cell? ⟨wr.heap.size, 1, none⟩ = some (.int .i64 s.2) := by rw [heap_cell hTV]; rfl
            have v2 := hWV.cell q2
            have v3 := hWV.cell q3
            have v4 := hWV.cell k1
            have v5 := hWV.cell k2
            have HJV := Lib.hid (HJX.out.on hWV)
            have HBV := Lib.hid hWV
            clear hWV hTV ht hs hgc hcell h3 hgw
            obtain ⟨b1, hb1⟩ : ∃ b1, decide (t.n < s.1) = b1 := ⟨_, rfl⟩
            obtain ⟨b2, hb2⟩ : ∃ b2, decide (s.2 < t.n) = b2 := ⟨_, rfl⟩
            have HB1 := Lib.hid hb1
            have HB22 := Lib.hid hb2
            cases b1 with
            | true =>
              have HCE : Hid (cmdC ⟨kn, pl, r, en⟩ = .error (t.place, 21)) := by
                have h1 := of_decide_eq_true HB1.out
                unfold Hid
                rw [HC.out, HREL.out, HZ.out, if_pos (by omega)]
                rfl
              obtain ⟨ao, cap, hnv⟩ := own_form HOW.out
              subst hnv
              go_upto_region 19 with fail
              have HVV := Lib.hid hV
              clear hV hb1 hb2 v0 v1
              have hRl : R < V.heap.size := by obtain ⟨cs, h, _⟩ := HJV.out.r; exact heap_lt h
              have hCl : C < V.heap.size := heap_lt HJV.out.c
              have hGl : G < V.heap.size := World.block_lt_of_cell? V _ v5
              have hbl : b < V.heap.size := World.block_lt_of_cell? V _ v2
              have hRC : ¬ R = C := HJV.out.ne
              have hRC2 : ¬ C = R := fun e => HJV.out.ne e.symm
              have hbR : ¬ b = R := by omega
              have hbR2 : ¬ R = b := by omega
              obtain ⟨⟨c0, c1, c2, c3⟩, cf, ⟨u0, u1, u2, u3, r0, r1, r2, r3⟩, rf⟩ := HJV.out.all
              have c0d : V.drew.cell? ⟨C, 0, none⟩ = some (.int .i64 kn) := c0
              have c1d : V.drew.cell? ⟨C, 1, none⟩ = some (.slice ao j cap) := c1
              have c2d : V.drew.cell? ⟨C, 2, none⟩ = some (.slice none 0 0) := c2
              have c3d : V.drew.cell? ⟨C, 3, none⟩ = some (.int .i64 pl) := c3
              have r0d : V.drew.cell? ⟨R, 0, none⟩ = some u0 := r0
              have r1d : V.drew.cell? ⟨R, 1, none⟩ = some u1 := r1
              have r2d : V.drew.cell? ⟨R, 2, none⟩ = some u2 := r2
              have r3d : V.drew.cell? ⟨R, 3, none⟩ = some u3 := r3
              have rfd : ∀ j, V.drew.frozen? ⟨R, j, none⟩ = false := rf
              have v3d : V.drew.cell? ⟨b, oo + j * 4 + 3, none⟩ = some (.int .i64 t.place) := v3
              have v5d : V.drew.cell? ⟨G, o + 2, none⟩ = some (.slice (some ⟨b, oo, none⟩) r.length lc) := v5
              obtain ⟨X, hX⟩ : ∃ X, errW V R (.int .i64 kn) (.slice ao j cap) (.slice none 0 0) (.int .i64 pl) t.place 21 = X := ⟨_, rfl⟩
              obtain ⟨hbX, hRX, hNX⟩ := HJV.out.err (.int .i64 kn) (.slice ao j cap) (.slice none 0 0) (.int .i64 pl) t.place 21
              rw [hX] at hbX hRX hNX
              unfold errW at hX
              have HEQ := Lib.hid hX
              have HBX2 := Lib.hid hbX
              have HRX := Lib.hid hRX
              have HNX := Lib.hid hNX
              clear hX hbX hRX hNX
              go_region_law (fail)
              all_goals
                rw [HEQ.out]
                go_wp2
                have x0 := heap_cell HRX.out 0
                have x1 := heap_cell HRX.out 1
                have x2 := heap_cell HRX.out 2
                have x3 := heap_cell HRX.out 3
                refine bodyPost_ret (v := .tuple #[.agg #[.int .i64 kn, .slice ao j cap, .slice none 0 0, .int .i64 pl], .pointer (some ⟨V.heap.size, 0, none⟩)]) (by simp [results, Tryd.results53, go_sem, x0, x1, x2, x3]) rfl ?_
                refine ⟨HBX2.out, ?_⟩
                rw [HCE.out]
                exact ⟨_, _, _, _, rfl, HNX.out⟩
            | false =>
              cases b2 with
              | true =>
                have HCE : Hid (cmdC ⟨kn, pl, r, en⟩ = .error (t.place, 21)) := by
                  have h1 := of_decide_eq_true HB22.out
                  unfold Hid
                  rw [HC.out, HREL.out, HZ.out, if_pos (by omega)]
                  rfl
                obtain ⟨ao, cap, hnv⟩ := own_form HOW.out
                subst hnv
                go_upto_region 19 with fail
                have HVV := Lib.hid hV
                clear hV hb1 hb2 v0 v1
                have hRl : R < V.heap.size := by obtain ⟨cs, h, _⟩ := HJV.out.r; exact heap_lt h
                have hCl : C < V.heap.size := heap_lt HJV.out.c
                have hGl : G < V.heap.size := World.block_lt_of_cell? V _ v5
                have hbl : b < V.heap.size := World.block_lt_of_cell? V _ v2
                have hRC : ¬ R = C := HJV.out.ne
                have hRC2 : ¬ C = R := fun e => HJV.out.ne e.symm
                have hbR : ¬ b = R := by omega
                have hbR2 : ¬ R = b := by omega
                obtain ⟨⟨c0, c1, c2, c3⟩, cf, ⟨u0, u1, u2, u3, r0, r1, r2, r3⟩, rf⟩ := HJV.out.all
                have c0d : V.drew.cell? ⟨C, 0, none⟩ = some (.int .i64 kn) := c0
                have c1d : V.drew.cell? ⟨C, 1, none⟩ = some (.slice ao j cap) := c1
                have c2d : V.drew.cell? ⟨C, 2, none⟩ = some (.slice none 0 0) := c2
                have c3d : V.drew.cell? ⟨C, 3, none⟩ = some (.int .i64 pl) := c3
                have r0d : V.drew.cell? ⟨R, 0, none⟩ = some u0 := r0
                have r1d : V.drew.cell? ⟨R, 1, none⟩ = some u1 := r1
                have r2d : V.drew.cell? ⟨R, 2, none⟩ = some u2 := r2
                have r3d : V.drew.cell? ⟨R, 3, none⟩ = some u3 := r3
                have rfd : ∀ j, V.drew.frozen? ⟨R, j, none⟩ = false := rf
                have v3d : V.drew.cell? ⟨b, oo + j * 4 + 3, none⟩ = some (.int .i64 t.place) := v3
                have v5d : V.drew.cell? ⟨G, o + 2, none⟩ = some (.slice (some ⟨b, oo, none⟩) r.length lc) := v5
                obtain ⟨X, hX⟩ : ∃ X, errW V R (.int .i64 kn) (.slice ao j cap) (.slice none 0 0) (.int .i64 pl) t.place 21 = X := ⟨_, rfl⟩
                obtain ⟨hbX, hRX, hNX⟩ := HJV.out.err (.int .i64 kn) (.slice ao j cap) (.slice none 0 0) (.int .i64 pl) t.place 21
                rw [hX] at hbX hRX hNX
                unfold errW at hX
                have HEQ := Lib.hid hX
                have HBX2 := Lib.hid hbX
                have HRX := Lib.hid hRX
                have HNX := Lib.hid hNX
                clear hX hbX hRX hNX
                go_region_law (fail)
                all_goals
                  rw [HEQ.out]
                  go_wp2
                  have x0 := heap_cell HRX.out 0
                  have x1 := heap_cell HRX.out 1
                  have x2 := heap_cell HRX.out 2
                  have x3 := heap_cell HRX.out 3
                  refine bodyPost_ret (v := .tuple #[.agg #[.int .i64 kn, .slice ao j cap, .slice none 0 0, .int .i64 pl], .pointer (some ⟨V.heap.size, 0, none⟩)]) (by simp [results, Tryd.results53, go_sem, x0, x1, x2, x3]) rfl ?_
                  refine ⟨HBX2.out, ?_⟩
                  rw [HCE.out]
                  exact ⟨_, _, _, _, rfl, HNX.out⟩
              | false =>
                go_upto_region 20 with fail
                have HVV := Lib.hid hV
                clear hV hb1 hb2 v0 v1
                have hCl : C < wc.heap.size := heap_lt HXB.out.c
                have hRl : R < wc.heap.size := by obtain ⟨cs, h, _⟩ := HXB.out.r; exact heap_lt h
                have hws : w.heap.size ≤ wc.heap.size := HXB.out.bel.size
                have hwv : wc.heap.size ≤ V.heap.size := Nat.le_trans HGW.out.size HBV.out.size
                have hov := Bel.own HBV.out HOW.out
                obtain ⟨⟨_, n1, _, _⟩, _, _, _⟩ := HJV.out.all
                have n1d : V.drew.cell? ⟨C, 1, none⟩ = some nv := n1
                have n1a : ∀ ob, (V.alloc ob).cell? ⟨C, 1, none⟩ = some nv := fun ob => ((Bel.refl V).alloc ob).cell n1
                have v2d : V.drew.cell? ⟨b, oo + j * 4 + 2, none⟩ = some (.int .i64 t.n) := v2
                have v5d : V.drew.cell? ⟨G, o + 2, none⟩ = some (.slice (some ⟨b, oo, none⟩) r.length lc) := v5
                have hmx : j + 1 ≤ maxLen := by unfold maxLen; omega
                have hmb : (j + 1) * 8 ≤ 140737488355328 := by omega
                have HOV := Lib.hid hov
                have HF := Lib.hid (And.intro hCl (And.intro hRl (And.intro hws hwv)))
                clear hov hCl hRl hws
                go_region_law (refine step_push (by rfl) (.tmp 131) (.tmp 140) 60 (by rfl) wc.heap.size 2 _ 1 8 Tryd.underlying60 infoI64 (by rfl) (by decide) nv j ((r.take j).map fun t => Value.int .i64 t.n) (by rfl) (Bel.own (by first | exact ((Bel.refl _).drew.alloc _) | exact ((Bel.refl _).alloc _).drew) HOV.out) _ (0, 0) _ (by rfl) (heap_alloc_new _ _) (by rfl) (by simp [Value.oneCell']) hmx hmb (by simp; omega) ?_; intro g5 cap5 w5 ho5 hg5; have hj5 := Bx2.push (HJV.out.on (by first | exact ((Bel.refl V).drew.alloc _) | exact ((Bel.refl V).alloc _).drew)) (Bel.own (by first | exact ((Bel.refl V).drew.alloc _) | exact ((Bel.refl V).alloc _).drew) HOV.out) HF.out.1 HF.out.2.1 HF.out.2.2.1 hg5; have hgp := grown_push HGW.out (HBV.out.trans (by first | exact ((Bel.refl V).drew.alloc _) | exact ((Bel.refl V).alloc _).drew)) (Bel.own (by first | exact ((Bel.refl V).drew.alloc _) | exact ((Bel.refl V).alloc _).drew) HOV.out) hg5; have n5 := hj5.all.1.2.1; have f5 := hj5.all.2.1)
                all_goals
                  have HR5 : Hid (Bx2 w (w5.setCell ⟨C, 1, none⟩ (.slice (some ⟨g5, 0, none⟩) (j + 1) cap5)) R C kn pl (.slice (some ⟨g5, 0, none⟩) (j + 1) cap5) (.slice none 0 0) ∧ (w5.setCell ⟨C, 1, none⟩ (.slice (some ⟨g5, 0, none⟩) (j + 1) cap5)).ownsRow wc.heap.size 2 1 (.slice (some ⟨g5, 0, none⟩) (j + 1) cap5) (j + 1) ((r.take (j + 1)).map fun t => Value.int .i64 t.n) ∧ wc.grownBy (w5.setCell ⟨C, 1, none⟩ (.slice (some ⟨g5, 0, none⟩) (j + 1) cap5)) (some C)) := by
                    refine ⟨hj5.setNum _, ?_, grown_trans hgp (set_grown _)⟩
                    rw [HTJ.out.2]
                    exact own_keep ho5 fun k hk => Below.heap_setCell _ _ _ _ (by have := (ho5.lt k hk).1; have := HF.out.1; show k ≠ C; omega)
                  have HRN : Hid (numsC (spansK kn r.length) r = pre21 ((r.take (j + 1)).map Tok.n) (numsC ((spansK kn r.length).drop (j + 1)) (r.drop (j + 1)))) := by
                    have h1 := of_decide_eq_false HB1.out
                    have h2 := of_decide_eq_false HB22.out
                    unfold Hid
                    rw [HREL.out, HZ.out, if_neg (by omega), HTJ.out.1]
                    cases numsC ((spansK kn r.length).drop (j + 1)) (r.drop (j + 1)) <;> simp [pre21]
                  clear hj5 hgp n5 f5 ho5 hg5
                  go_wp2
                  go_roundg gk'
                  case measure => omega
                  case rel => exact ⟨j + 1, _, rfl, by omega, by omega, HR5.out.1, HR5.out.2.1, HR5.out.2.2, HRN.out⟩
          · obtain rfl : j = r.length := by omega
            have hnum : numsC (spansK kn r.length) r = .ok (r.map Tok.n) := by
              rw [HREL.out, List.take_length, List.drop_length, List.drop_of_length_le (by rw [HSPL.out]; omega)]
              simp [numsC, pre21]
            obtain ⟨ao, cap, hnv⟩ := own_form HOW.out
            subst hnv
            have hfac := nums_facts hnum HSPL.out
            have hsm : ∀ x ∈ r.map Tok.n, Sm4 x := zip_in (by rw [List.length_map]; exact HSPL.out) (spans_in kn _) hfac.2
            have hrow : NumRow wr (.slice ao r.length cap) (r.map Tok.n) := numrow_own (l := r.map Tok.n) (by have := HOW.out; rw [List.take_length] at this; rw [List.map_map]; exact this) (by simp)
            obtain ⟨sb, hsb⟩ : ∃ sb, soundS kn (r.map Tok.n) = sb := ⟨_, rfl⟩
            have hso := sound_any kn (r.map Tok.n) (.slice ao r.length cap) wr.drew (hrow.bel (Bel.refl wr).drew) (by simp; omega) hsm (fun e => by rw [List.length_map]; exact H2.out e) (fun e => by
              rcases H12.out e with h | h
              · left; rw [List.eq_nil_of_length_eq_zero h]; rfl
              · right; rw [List.length_map]; omega)
            rw [hsb] at hso
            have HSO := Lib.hid hso
            have HROW := Lib.hid hrow
            have HNS : Hid (cmdC ⟨kn, pl, r, en⟩ = if sb = true then .ok ⟨kn, r.map Tok.n, [], pl⟩ else .error (pl, 21)) := by
              unfold Hid
              rw [HC.out, hnum]
              dsimp only
              rw [hsb]
            clear hnum hfac hsm hrow hsb hso
            have k0 := HJX.out.bel.cell G0.out
            have k1 := HJX.out.bel.cell G1.out
            obtain ⟨⟨c0, c1, c2, c3⟩, cf, _, _⟩ := HJX.out.all
            have k0d : wr.drew.cell? ⟨G, o, none⟩ = some (.int .i64 kn) := k0
            have c1d : wr.drew.cell? ⟨C, 1, none⟩ = some (.slice ao r.length cap) := c1
            go_upto_region 22 with fail
            go_cut [151] from 97 to 159 (fun s151 wx => s151 = .bool (!sb) ∧ Bel wr wx)
            case first =>
              go_region_law (first
                | (go_simp; go_at_call 67; (with_reducible refine (HSO.out).mono ?_); rintro e w3 ⟨hb3, rfl⟩; have HB3 := Lib.hid ((Bel.refl wr).drew.trans hb3); clear hb3))
              all_goals
                go_wp2
                go_meet
                exact ⟨rfl, HB3.out⟩
            case rest =>
            obtain ⟨rfl, hbx⟩ := hcut
            have HXX := Lib.hid (HJX.out.on hbx)
            have HOX := Lib.hid (Bel.own hbx HOW.out)
            have k1x := hbx.cell k1
            clear c0 c1 c2 c3 cf k0 k1 k0d c1d hbx
            cases sb with
            | true =>
              have HCE : Hid (cmdC ⟨kn, pl, r, en⟩ = .ok ⟨kn, r.map Tok.n, [], pl⟩) := by unfold Hid; rw [HNS.out, if_pos rfl]
              obtain ⟨⟨c0, c1, c2, c3⟩, cf, ⟨u0, u1, u2, u3, r0, r1, r2, r3⟩, rf⟩ := HXX.out.all
              go_wp2
              obtain ⟨hbX, hRX, hoX⟩ := HXX.out.out (.int .i64 kn) (.slice ao r.length cap) (.slice none 0 0) (.int .i64 pl)
              have hRl : R < wc.heap.size := by obtain ⟨cs, h, _⟩ := HXX.out.r; exact heap_lt h
              have hoX2 := own_keep HOX.out (w' := ((((wc.setCell ⟨R, 0, none⟩ (.int .i64 kn)).setCell ⟨R, 1, none⟩ (.slice ao r.length cap)).setCell ⟨R, 2, none⟩ (.slice none 0 0)).setCell ⟨R, 3, none⟩ (.int .i64 pl))) fun k hk => hoX k (by
                have h1 := (HOX.out.lt k hk).1
                obtain ⟨cs, h2, _⟩ := HXB.out.r
                have := heap_lt h2
                omega)
              generalize ((((wc.setCell ⟨R, 0, none⟩ (.int .i64 kn)).setCell ⟨R, 1, none⟩ (.slice ao r.length cap)).setCell ⟨R, 2, none⟩ (.slice none 0 0)).setCell ⟨R, 3, none⟩ (.int .i64 pl)) = X at hbX hRX hoX hoX2 ⊢
              have x0 := heap_cell hRX 0
              have x1 := heap_cell hRX 1
              have x2 := heap_cell hRX 2
              have x3 := heap_cell hRX 3
              refine bodyPost_ret (v := .tuple #[.agg #[.int .i64 kn, .slice ao r.length cap, .slice none 0 0, .int .i64 pl], .pointer none]) (by simp [results, Tryd.results53, go_sem, x0, x1, x2, x3]) rfl ?_
              refine ⟨hbX, ?_⟩
              rw [HCE.out]
              exact ⟨_, _, rfl, by rw [List.take_length] at hoX2; rw [List.map_map, List.length_map]; exact own_base hoX2 HXB.out.bel.size, World.ownsRow_nil _ _ _ _, by simp⟩
            | false =>
              have HCE : Hid (cmdC ⟨kn, pl, r, en⟩ = .error (pl, 21)) := by unfold Hid; rw [HNS.out, if_neg (by simp)]
              go_upto_region 23 with fail
              have hRl : R < wc.heap.size := by obtain ⟨cs, h, _⟩ := HXX.out.r; exact heap_lt h
              have hCl : C < wc.heap.size := heap_lt HXX.out.c
              have hGl : G < wc.heap.size := World.block_lt_of_cell? wc _ k1x
              have hRC : ¬ R = C := HXX.out.ne
              have hRC2 : ¬ C = R := fun e => HXX.out.ne e.symm
              obtain ⟨⟨c0, c1, c2, c3⟩, cf, ⟨u0, u1, u2, u3, r0, r1, r2, r3⟩, rf⟩ := HXX.out.all
              have c0d : wc.drew.cell? ⟨C, 0, none⟩ = some (.int .i64 kn) := c0
              have c1d : wc.drew.cell? ⟨C, 1, none⟩ = some (.slice ao r.length cap) := c1
              have c2d : wc.drew.cell? ⟨C, 2, none⟩ = some (.slice none 0 0) := c2
              have c3d : wc.drew.cell? ⟨C, 3, none⟩ = some (.int .i64 pl) := c3
              have r0d : wc.drew.cell? ⟨R, 0, none⟩ = some u0 := r0
              have r1d : wc.drew.cell? ⟨R, 1, none⟩ = some u1 := r1
              have r2d : wc.drew.cell? ⟨R, 2, none⟩ = some u2 := r2
              have r3d : wc.drew.cell? ⟨R, 3, none⟩ = some u3 := r3
              have rfd : ∀ j, wc.drew.frozen? ⟨R, j, none⟩ = false := rf
              have k1d : wc.drew.cell? ⟨G, o + 1, none⟩ = some (.int .i64 pl) := k1x
              obtain ⟨X, hX⟩ : ∃ X, errW wc R (.int .i64 kn) (.slice ao r.length cap) (.slice none 0 0) (.int .i64 pl) pl 21 = X := ⟨_, rfl⟩
              obtain ⟨hbX, hRX, hNX⟩ := HXX.out.err (.int .i64 kn) (.slice ao r.length cap) (.slice none 0 0) (.int .i64 pl) pl 21
              rw [hX] at hbX hRX hNX
              unfold errW at hX
              have HEQ := Lib.hid hX
              have HBX2 := Lib.hid hbX
              have HRX := Lib.hid hRX
              have HNX := Lib.hid hNX
              clear hX hbX hRX hNX
              go_region_law (fail)
              all_goals
                rw [HEQ.out]
                go_wp2
                have x0 := heap_cell HRX.out 0
                have x1 := heap_cell HRX.out 1
                have x2 := heap_cell HRX.out 2
                have x3 := heap_cell HRX.out 3
                refine bodyPost_ret (v := .tuple #[.agg #[.int .i64 kn, .slice ao r.length cap, .slice none 0 0, .int .i64 pl], .pointer (some ⟨wc.heap.size, 0, none⟩)]) (by simp [results, Tryd.results53, go_sem, x0, x1, x2, x3]) rfl ?_
                refine ⟨HBX2.out, ?_⟩
                rw [HCE.out]
                exact ⟨_, _, _, _, rfl, HNX.out⟩
    · obtain ⟨wg, hwv, hcell⟩ := word_cells HKW.out hw
      rw [hwv] at z2
      have hd : dashK kn = false := by
        by_cases h : dashK kn = true
        · exact absurd (dash_words h).1 hw
        · simpa using h
      obtain ⟨t2, r2, rfl, hm⟩ := words_line HBAD.out hpk hd hw hen HPL.out
      obtain ⟨b3, o3, c3, he3, _, _, ⟨p0, p1, p2, p3⟩, _⟩ := HTA.out.cons
      have he4 : (Value.slice lp (t2 :: r2).length lc) = .slice (some ⟨b3, o3, none⟩) (r2.length + 1) c3 := he3
      rw [he4] at g2
      obtain ⟨ix, hix⟩ : ∃ ix, idxW t2.s (wordsK kn) 0 = ix := ⟨_, rfl⟩
      have HIX : Hid (∀ V, Bel wc V → Calls Tryd.prog 73 #[.slice (some ⟨wg, 0, none⟩) (wordsK kn).length (wordsK kn).length, .string ⟨t2.s.toArray⟩] V fun e w' => e = .returned (.int .i64 ix) ∧ w' = V) := fun V hV => by
        have := Tryd.slices_Index_string wg 0 (wordsK kn).length (wordsK kn).length ((wordsK kn).map fun s => (⟨s.toArray⟩ : ByteArray)) ⟨t2.s.toArray⟩ V (by simp) (by have : (wordsK kn).length ≤ 3 := (by unfold wordsK; (repeat' split) <;> decide); omega) (fun j hj => by
          rw [List.length_map] at hj
          rw [Nat.zero_add, hV.cell (hcell j hj)]
          simp [List.getD, hj])
        rw [List.take_of_length_le (by simp), show Lib.idxOfS ((wordsK kn).map fun s => (⟨s.toArray⟩ : ByteArray)) ⟨t2.s.toArray⟩ = idxW t2.s (wordsK kn) 0 from idx_words _ _ 0, hix] at this
        exact this
      have HC : Hid (cmdC ⟨kn, pl, t2 :: r2, en⟩ = .ok ⟨kn, [ix], [], pl⟩) := by
        unfold Hid cmdC
        rw [if_neg (by simp [hpk]), if_pos hw]
        dsimp only
        rw [hix]
      have hix1 : IntKind.i64.wrap ix = ix := by
        have := idx_facts t2.s (wordsK kn) 0 hm
        have h3 : (wordsK kn).length ≤ 3 := by unfold wordsK; (repeat' split) <;> decide
        rw [hix] at this
        exact IntWalk.i64_in _ (by omega)
      clear hpk hd hw hwv hcell he3 he4 hix hm p0 p2 p3
      have g2d : wc.drew.cell? ⟨G, o + 2, none⟩ = some (.slice (some ⟨b3, o3, none⟩) (r2.length + 1) c3) := g2
      have z2d : wc.drew.cell? ⟨KB, 2, none⟩ = some (.slice (some ⟨wg, 0, none⟩) (wordsK kn).length (wordsK kn).length) := z2
      have p1d : wc.drew.cell? ⟨b3, o3 + 1, none⟩ = some (.string ⟨t2.s.toArray⟩) := p1
      have HIX2 := Lib.hid (HIX.out wc.drew (Bel.refl wc).drew)
      have hxa := HX.out.on ((Bel.refl wc).alloc (.cells #[.int .i64 ix] 2)).drew
      obtain ⟨⟨c0, c1, c2, c3'⟩, cf, _, _⟩ := hxa.all
      have hCl : C < wc.heap.size := heap_lt HX.out.c
      have hRl : R < wc.heap.size := by obtain ⟨cs, h, _⟩ := HX.out.r; exact heap_lt h
      have HNUM : Hid (((wc.alloc (.cells #[.int .i64 ix] 2)).setCell ⟨C, 1, none⟩ (.slice (some ⟨wc.heap.size, 0, none⟩) 1 1)).drew.heap[wc.heap.size]? = some (.cells #[.int .i64 ix] 2 (0, 0))) := by
        show ((wc.alloc (.cells #[.int .i64 ix] 2)).setCell ⟨C, 1, none⟩ (.slice (some ⟨wc.heap.size, 0, none⟩) 1 1)).heap[wc.heap.size]? = _
        rw [Below.heap_setCell _ _ _ _ (by show wc.heap.size ≠ C; omega)]
        exact heap_alloc_new _ _
      have HY : Hid (Bx2 w ((wc.alloc (.cells #[.int .i64 ix] 2)).setCell ⟨C, 1, none⟩ (.slice (some ⟨wc.heap.size, 0, none⟩) 1 1)).drew R C kn pl (.slice (some ⟨wc.heap.size, 0, none⟩) 1 1) (.slice none 0 0)) := ((HX.out.on ((Bel.refl wc).alloc (.cells #[.int .i64 ix] 2))).setNum _).on (Bel.refl _).drew
      obtain ⟨V1, hV1⟩ : ∃ V1, ((wc.alloc (.cells #[.int .i64 ix] 2)).setCell ⟨C, 1, none⟩ (.slice (some ⟨wc.heap.size, 0, none⟩) 1 1)).drew = V1 := ⟨_, rfl⟩
      rw [hV1] at HY HNUM
      have HEQ := Lib.hid hV1
      have HRL := Lib.hid hRl
      clear hxa hV1 hCl hRl
      go_upto_region 10 with fail
      go_region_law (first
        | (go_simp; go_at_call 73; (with_reducible refine (HIX2.out).mono ?_); rintro e wx ⟨rfl, hwx⟩; obtain rfl := hwx))
      all_goals
        rw [HEQ.out]
        clear c0 c1 c2 c3' cf
        obtain ⟨⟨c0, c1, c2, c3'⟩, cf, ⟨u0, u1, u2, u3, r0, r1, r2, r3⟩, rf⟩ := HY.out.all
        go_wp2
        obtain ⟨hbX, hRX, hoX⟩ := HY.out.out (.int .i64 kn) (.slice (some ⟨wc.heap.size, 0, none⟩) 1 1) (.slice none 0 0) (.int .i64 pl)
        generalize ((((V1.setCell ⟨R, 0, none⟩ (.int .i64 kn)).setCell ⟨R, 1, none⟩ (.slice (some ⟨wc.heap.size, 0, none⟩) 1 1)).setCell ⟨R, 2, none⟩ (.slice none 0 0)).setCell ⟨R, 3, none⟩ (.int .i64 pl)) = X at hbX hRX hoX ⊢
        have x0 := heap_cell hRX 0
        have x1 := heap_cell hRX 1
        have x2 := heap_cell hRX 2
        have x3 := heap_cell hRX 3
        refine bodyPost_ret (v := .tuple #[.agg #[.int .i64 kn, .slice (some ⟨wc.heap.size, 0, none⟩) 1 1, .slice none 0 0, .int .i64 pl], .pointer none]) (by simp [results, Tryd.results53, go_sem, x0, x1, x2, x3]) rfl ?_
        refine ⟨hbX, ?_⟩
        rw [HC.out]
        exact ⟨_, _, rfl, own_lit1 ((hoX _ (by have := HRL.out; omega)).trans HNUM.out) HBA.out.size, World.ownsRow_nil _ _ _ _, by simp⟩
end Go.Proofs.YtefajplbgmikdaaDoor
