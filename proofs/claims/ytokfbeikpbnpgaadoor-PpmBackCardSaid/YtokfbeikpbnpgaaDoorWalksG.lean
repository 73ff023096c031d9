/-
  A copy of bytes by an append to an empty row, in a region that draws its order; the walk of PpmFiles.
-/
import Derived.Test.YtokfbeikpbnpgaaDoorWalksF
import Derived.Deep.RegionHeld3
import Derived.Deep.AppendLies
namespace Go.Proofs.YtokfbeikpbnpgaaDoor
open Go.RowKit

theorem run_append_copy {P : Program} (w : World) (t ty : TypeId) (h1 : P.underlying t = some (.slice 5)) (h2 : (P.info? 5).map (fun i => (i.zero, i.size, i.bytes)) = some (some (.int .u8 0), 1, 1))
    (g : Nat) (hg : w.heap[g]? = some (.cells #[] 5 (0, 0))) (p : Option Addr) (c : Nat) (xs : List Int) (hR : RB w p c xs) (hl : xs.length ≤ 140737488351232) :
    ∃ p' c' w', (Builtin.append_ #[t, t] ty #[.slice (some ⟨g, 0, none⟩) 0 0, .slice p xs.length c]).run P w = .ok (.slice p' xs.length c') w' ∧ RB w' p' c' xs ∧ Below g w w' := by
  obtain ⟨i0, hi, hz0, hz1, hz2⟩ := info_parts h2
  have hgl : g < w.heap.size := (Array.getElem?_eq_some_iff.1 hg).1
  have hown : w.ownsRow g 5 1 (.slice (some ⟨g, 0, none⟩) 0 0) 0 [] := ⟨rfl, .inr ⟨g, 0, #[], rfl, Nat.le_refl _, hg, Nat.le_refl _, by decide, rfl, rfl⟩⟩
  cases p with
  | none =>
    have h0 := hR.2.1 rfl
    have hx : xs = [] := List.eq_nil_of_length_eq_zero (by have := hR.1; omega)
    subst hx
    subst h0
    refine ⟨some ⟨g, 0, none⟩, 0, w, run_append_owned_none (P := P) w g t ty 5 i0 1 h1 hi _ 0 [] hown, ⟨Nat.le_refl _, (fun h => by cases h), Lib.BytesIn.nil _ _ _, fun _ h => absurd h (by simp)⟩, Below.refl _ _⟩
  | some a =>
    have hc1 : ∀ j u, (xs.map (Value.int .u8))[j]? = some u → w.cell? (a.add j) = some u := fun j u hj => by
      rw [List.getElem?_map] at hj
      have hjl : j < xs.length := by
        rcases Nat.lt_or_ge j xs.length with h | h
        · exact h
        · rw [List.getElem?_eq_none h] at hj; cases hj
      obtain ⟨b, o, e, hc⟩ := hR.2.2.1 (by omega)
      obtain rfl : a = ⟨b, o, none⟩ := Option.some.inj e
      rw [Addr.add_lit, hc j hjl]
      rw [List.getElem?_eq_getElem hjl] at hj
      simp [List.getD, hjl] at hj ⊢
      exact hj
    obtain ⟨v', w', hr, hown', hgrow, _⟩ := run_append_own (P := P) w g t ty 5 i0 (.int .u8 0) 1 1 h1 hi hz0 hz1 hz2 rfl (by decide) (.slice (some ⟨g, 0, none⟩) 0 0) 0 [] hown a xs.length c (xs.map (Value.int .u8)) (by simp) hc1 (fun u hu => by obtain ⟨x, _, rfl⟩ := List.mem_map.1 hu; rfl) (by unfold maxLen; omega) (by omega) (by omega)
    rw [List.nil_append] at hown'
    obtain ⟨p', c', rfl, hR'⟩ := RB.own hown' hR.2.2.2
    exact ⟨p', c', w', hr, hR', (Below.refl _ _).grown hgrow (by omega) (fun k hk => by simp [Value.ownBlock] at hk; omega)⟩
theorem step_append_copy {P : Program} {w : World} {ops : Array Oper} {o : Oper} {a : Act} {K : Act → World → Prop} {Q : Exit → Act → World → Prop} {E : Prop} (hgd : o.guard = none) (s x : Operand) (t : TypeId)
    (ho : o.op = .call { callee := .builtin .append, args := #[s, x], argTypes := #[t, t] })
    (h1 : P.underlying t = some (.slice 5)) (h2 : (P.info? 5).map (fun i => (i.zero, i.size, i.bytes)) = some (some (.int .u8 0), 1, 1))
    (g : Nat) (hs : a.eval s = .slice (some ⟨g, 0, none⟩) 0 0) (hg : w.heap[g]? = some (.cells #[] 5 (0, 0))) (p : Option Addr) (c : Nat) (xs : List Int) (hx : a.eval x = .slice p xs.length c) (hR : RB w p c xs) (hl : xs.length ≤ 140737488351232)
    (h : ∀ p' c' w', RB w' p' c' xs → Below g w w' → K (a.put o.dst (.slice p' xs.length c')) w') :
    if Region.wanted o (yielded ops a.tmps) = true then Oper.wp P o a w K Q else E := by
  have hw : Region.wanted o (yielded ops a.tmps) = true := by simp [Region.wanted, hgd]
  rw [if_pos hw]
  obtain ⟨p', c', w', hr, h3, h4⟩ := run_append_copy (P := P) w t o.type h1 h2 g hg p c xs hR hl
  unfold Oper.wp execOp
  simp only [ho, resolve, invoke, builtin, Sem.run_bind, Sem.run_pure, Result.andThen_ok, List.map_toArray, List.map_cons, List.map_nil, hs, hx, hr]
  exact h p' c' w' h3 h4
theorem wpList_append_copy {P : Program} {w : World} {ops : Array Oper} {rest : List Oper} {o : Oper} {a : Act} {Q : Exit → Act → World → Prop} (hgd : o.guard = none) (s x : Operand) (t : TypeId)
    (ho : o.op = .call { callee := .builtin .append, args := #[s, x], argTypes := #[t, t] })
    (h1 : P.underlying t = some (.slice 5)) (h2 : (P.info? 5).map (fun i => (i.zero, i.size, i.bytes)) = some (some (.int .u8 0), 1, 1))
    (g : Nat) (hs : a.eval s = .slice (some ⟨g, 0, none⟩) 0 0) (hg : w.heap[g]? = some (.cells #[] 5 (0, 0))) (p : Option Addr) (c : Nat) (xs : List Int) (hx : a.eval x = .slice p xs.length c) (hR : RB w p c xs) (hl : xs.length ≤ 140737488351232)
    (h : ∀ p' c' w', RB w' p' c' xs → Below g w w' → wpList P ops Q rest (a.put o.dst (.slice p' xs.length c')) w') : wpList P ops Q (o :: rest) a w := by
  refine wpList_plain hgd fun K hK' => ?_
  obtain ⟨p', c', w', hr, h3, h4⟩ := run_append_copy (P := P) w t o.type h1 h2 g hg p c xs hR hl
  unfold Oper.wp execOp
  simp only [ho, resolve, invoke, builtin, Sem.run_bind, Sem.run_pure, Result.andThen_ok, List.map_toArray, List.map_cons, List.map_nil, hs, hx, hr]
  exact hK' _ _ (h p' c' w' h3 h4)

/-- Nothing of w0 has changed. -/
def Bel (w0 w : World) : Prop := Below w0.heap.size w0 w
theorem Bel.refl (w : World) : Bel w w := Below.refl _ _
theorem Bel.drew {w0 w : World} (h : Bel w0 w) : Bel w0 w.drew := Below.drew h
theorem Bel.alloc {w0 w : World} (h : Bel w0 w) (o : Obj) : Bel w0 (w.alloc o) := Below.alloc h (Below.size h) o
theorem Bel.then {w0 w w' : World} (h : Bel w0 w) (hb : Below w.heap.size w w') : Bel w0 w' := Below.trans h (hb.mono (Below.size h))
theorem Bel.at {w0 w w' : World} {g : Nat} (h : Bel w0 w) (hg : w0.heap.size ≤ g) (hb : Below g w w') : Bel w0 w' := Below.trans h (hb.mono hg)
theorem Bel.trans {w0 w w' : World} (h : Bel w0 w) (h' : Bel w w') : Bel w0 w' := h.then h'
theorem Bel.cell {w0 w : World} (h : Bel w0 w) {a : Addr} {v : Value} (hc : w0.cell? a = some v) : w.cell? a = some v := (Below.cell h (World.block_lt_of_cell? w0 a hc)).trans hc
theorem Bel.rb {w0 w : World} (h : Bel w0 w) {p : Option Addr} {c : Nat} {xs : List Int} (hR : RB w0 p c xs) : RB w p c xs := RB.below hR h
theorem Bel.tab {w0 w : World} (h : Bel w0 w) (ht : Tab w0) : Tab w := ht.on h

theorem enc_any (a b : Int) (p : Option Addr) (c : Nat) (xs : List Int) (w : World) (hr : RB w p c xs) (ht : Tab w) (hl : xs.length ≤ 140737488351232) :
    Calls Tryd.prog 7 #[.int .i64 a, .int .i64 b, .slice p xs.length c] w (EncPost (encS a b xs) w) := by
  by_cases h : Side a ∧ Side b
  · exact enc_yes a b p c xs w h.1 h.2 hr ht hl
  · have := enc_no a b p c xs w h
    unfold encS
    rwa [if_neg h]
theorem renc_any (a b : Int) (p : Option Addr) (c : Nat) (xs : List Int) (w : World) (hr : RB w p c xs) (hl : xs.length ≤ 140737488351232) :
    Calls Tryd.prog 8 #[.int .i64 a, .int .i64 b, .slice p xs.length c] w (EncPost (encS a b xs) w) := by
  by_cases h : Side a ∧ Side b
  · exact renc_yes a b p c xs w h.1 h.2 hr hl
  · have := renc_no a b p c xs w h
    unfold encS
    rwa [if_neg h]

set_option maxHeartbeats 2000000 in
theorem files_any (n0 n1 : Int) (pb pf : Option Addr) (cb cf : Nat) (bs fs : List Int) (w : World) (hb : RB w pb cb bs) (hf : RB w pf cf fs) (ht : Tab w) :
    Calls Tryd.prog 3 #[.agg #[.int .i64 n0, .int .i64 n1], .slice pb bs.length cb, .slice pf fs.length cf] w (TruePost w) := by
  by_cases hbig : 4000 < bs.length
  · have hd1 : decide (4000 < (bs.length : Int)) = true := decide_eq_true (by omega)
    have HT := Lib.hid ht
    clear hb hf ht
    go_enter Tryd.func3, Tryd.ntmps3
    go_wp2_with fail
    refine (wakes_any _ (Bel.tab ((Bel.refl w).alloc _) HT.out)).mono ?_
    rintro e w1 ⟨rfl, hb1⟩
    have HB1 := Lib.hid (Bel.then ((Bel.refl w).alloc _) hb1)
    clear hb1
    go_wp2
    go_ret
    exact ⟨rfl, HB1.out⟩
  by_cases hbig2 : 4000 < fs.length
  · have hd1 : decide (4000 < (bs.length : Int)) = false := decide_eq_false (by omega)
    have hd2 : decide (4000 < (fs.length : Int)) = true := decide_eq_true (by omega)
    have HT := Lib.hid ht
    clear hb hf ht
    go_enter Tryd.func3, Tryd.ntmps3
    go_wp2_with fail
    refine (wakes_any _ (Bel.tab ((Bel.refl w).alloc _) HT.out)).mono ?_
    rintro e w1 ⟨rfl, hb1⟩
    have HB1 := Lib.hid (Bel.then ((Bel.refl w).alloc _) hb1)
    clear hb1
    go_wp2
    go_ret
    exact ⟨rfl, HB1.out⟩
  obtain ⟨⟨zs, q⟩, hE⟩ : ∃ E, encS n0 n1 bs = E := ⟨_, rfl⟩
  have HE := Lib.hid hE
  clear hE
  have hd1 : decide (4000 < (bs.length : Int)) = false := decide_eq_false (by omega)
  have hd2 : decide (4000 < (fs.length : Int)) = false := decide_eq_false (by omega)
  have hbl : bs.length ≤ 140737488351232 := by omega
  have hfl : fs.length ≤ 140737488351232 := by omega
  have HB := Lib.hid hb
  have HF := Lib.hid hf
  have HT := Lib.hid ht
  clear hb hf ht hbig hbig2
  go_enter Tryd.func3, Tryd.ntmps3
  go_wp2_with fail
  have HW0 : Hid (Bel w (w.alloc (Obj.cells #[Value.int IntKind.i64 n0, Value.int IntKind.i64 n1] 22))) := (Bel.refl w).alloc _
  have hc0 : (w.alloc (Obj.cells #[Value.int IntKind.i64 n0, Value.int IntKind.i64 n1] 22)).cell? ⟨w.heap.size, 0, none⟩ = some (.int .i64 n0) := by rw [World.cell?_alloc_at _ _ _ _ rfl]; rfl
  have hc1 : (w.alloc (Obj.cells #[Value.int IntKind.i64 n0, Value.int IntKind.i64 n1] 22)).cell? ⟨w.heap.size, 1, none⟩ = some (.int .i64 n1) := by rw [World.cell?_alloc_at _ _ _ _ rfl]; rfl
  generalize w.alloc (Obj.cells #[Value.int IntKind.i64 n0, Value.int IntKind.i64 n1] 22) = w0 at HW0 hc0 hc1 ⊢
  generalize w.heap.size = B at hc0 hc1 ⊢
  have hBel := Bel.refl w0
  have HB0 : Hid (RB w0 pb cb bs) := HW0.out.rb HB.out
  have HF0 : Hid (RB w0 pf cf fs) := HW0.out.rb HF.out
  have HT0 : Hid (Tab w0) := HW0.out.tab HT.out
  have hS : ∀ w', Bel w0 w' → w'.cell? ⟨B, 0, none⟩ = some (.int .i64 n0) ∧ w'.cell? ⟨B, 1, none⟩ = some (.int .i64 n1) ∧ Bel w0 w' := fun w' h => ⟨h.cell hc0, h.cell hc1, h⟩
  have HS := Lib.hid hS
  clear hS
  go_region_held3 (fun w' => w'.cell? ⟨B, 0, none⟩ = some (.int .i64 n0) ∧ w'.cell? ⟨B, 1, none⟩ = some (.int .i64 n1) ∧ Bel w0 w')
    (first
      | exact HS.out _ (Bel.drew hBel)
      | (go_split_ands; exact HS.out _ (by assumption))
      | (go_split_ands; exact HS.out _ (Bel.alloc (by assumption) _))
      | (go_split_ands; exact HS.out _ (Bel.drew (by assumption))))
    (first
      | (refine step_append_copy (by rfl) _ _ 23 (by rfl) Tryd.underlying23 info5 _ (by rfl) ?_ pb cb bs (by rfl) ?_ hbl ?_; (exact heap_alloc_new _ _); (go_split_ands; exact Bel.rb (by assumption) HB0.out); intro p' c' w' hR hb1; go_split_ands; have hbel1 := Bel.at (hb := hb1) (by assumption) (by simp))
      | (go_at_call 7; refine (enc_any n0 n1 _ _ bs _ (by assumption) ?_ hbl).mono ?_; (go_split_ands; exact Bel.tab (by assumption) HT0.out); rw [HE.out]; rintro e w2 ⟨p2, c2, rfl, hR2, hb2⟩; go_split_ands; have hbel2 := Bel.then (hb := hb2) (by assumption)))
  have hc0' := hbel2.cell hc0
  have hc1' := hbel2.cell hc1
  have HX2 : Hid (RB w2 p2 c2 zs) := hR2
  have HF2 : Hid (RB w2 pf cf fs) := hbel2.rb HF0.out
  have HB2' : Hid (RB w2 pb cb bs) := hbel2.rb HB0.out
  have HBEL2 := Lib.hid hbel2
  clear hR hb1 hbel1 hR2 hb2 hbel2 hBel hc0 hc1
  go_wp2_with fail
  refine (renc_any n0 n1 pb cb bs w2 HB2'.out hbl).mono ?_
  rw [HE.out]
  rintro e w3 ⟨p3, c3, rfl, hR3, hb3⟩
  have HX3 : Hid (RB w3 p2 c2 zs) := HX2.out.below hb3
  have HY3 : Hid (RB w3 p3 c3 zs) := hR3
  have HF3 : Hid (RB w3 pf cf fs) := HF2.out.below hb3
  have HBEL3 := Lib.hid (HBEL2.out.then hb3)
  clear hR3 hb3 hc0' hc1'
  go_wp2_with (first | (at_builtin; (refine wpList_append_copy rfl _ _ 23 rfl Tryd.underlying23 info5 _ rfl (heap_alloc_new _ _) pf cf fs rfl (Bel.rb ((Bel.refl _).alloc _) HF3.out) hfl ?_); intro p4 c4 w4 hR4 hb4; have HR4 := Lib.hid hR4; have HBEL4 := Lib.hid (Bel.at ((Bel.refl w3).alloc _) (Nat.le_refl _) hb4); clear hR4 hb4))
  have HT4 : Hid (Tab w4) := HBEL4.out.tab (HBEL3.out.tab HT0.out)
  refine (pdec_any p4 c4 fs w4 HR4.out hfl HT4.out).mono ?_
  rintro e w5 ⟨a, b, p5, c5, ys, r, rfl, hD5, hR5, hb5⟩
  have HD5 := Lib.hid hD5
  have HR5 := Lib.hid hR5
  have HBEL5 := Lib.hid (HBEL4.out.then hb5)
  have HF5 : Hid (RB w5 pf cf fs) := HBEL5.out.rb HF3.out
  clear hD5 hR5 hb5
  go_wp2_with fail
  refine (rdec_any pf cf fs w5 HF5.out hfl).mono ?_
  rintro e w6 ⟨a', b', p6, c6, ys', r', rfl, hD6, hR6, hb6⟩
  obtain ⟨rfl, rfl, rfl, rfl⟩ := HD5.out.one hD6
  have HR6 := Lib.hid hR6
  have HR5' : Hid (RB w6 p5 c5 ys) := HR5.out.below hb6
  have HBEL6 := Lib.hid (HBEL5.out.then hb6)
  have HX6 : Hid (RB w6 p2 c2 zs) := HBEL6.out.rb HX3.out
  have HY6 : Hid (RB w6 p3 c3 zs) := HBEL6.out.rb HY3.out
  clear hD6 hR6 hb6
  have kc : ∀ (p : Option Addr) (c : Nat) (xs : List Int), RB w6 p c xs → ∀ o, (convert 23 9 (.slice p xs.length c)).run Tryd.prog (w6.alloc o) = .ok (.string (strOfNums xs)) (w6.alloc o) := fun p c xs h o => by
    have := convert_take (h.below ((Below.refl _ w6).alloc (Nat.le_refl _) o)) xs.length (Nat.le_refl _) c
    rwa [List.take_length] at this
  have k2 := kc p2 c2 zs HX6.out
  have k3 := kc p3 c3 zs HY6.out
  have k5 := kc p5 c5 ys HR5'.out
  have k6 := kc p6 c6 ys HR6.out
  clear kc
  go_wp2_with fail
  have HT6 : Hid (Tab w6) := HBEL6.out.tab (HBEL3.out.tab HT0.out)
  refine (wakes_any _ (Bel.tab ((Bel.refl w6).alloc _) HT6.out)).mono ?_
  rintro e w7 ⟨rfl, hb7⟩
  have HBEL7 := Lib.hid (HW0.out.trans (Bel.trans HBEL3.out (Bel.trans HBEL6.out (Bel.then ((Bel.refl w6).alloc _) hb7))))
  clear hb7
  go_wp2
  go_ret
  exact ⟨by simp, HBEL7.out⟩
end Go.Proofs.YtokfbeikpbnpgaaDoor
