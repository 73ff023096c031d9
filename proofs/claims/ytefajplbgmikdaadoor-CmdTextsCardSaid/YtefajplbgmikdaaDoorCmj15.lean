/-
  The walk of lines.
-/
import Derived.Test.YtefajplbgmikdaaDoorCmj11
import Derived.Test.YtefajplbgmikdaaDoorCmj5
import Derived.StillTailTactics
import Derived.Test.YtefajplbgmikdaaDoorCmj10
import Derived.Test.YtefajplbgmikdaaDoorCmj14
import Derived.Test.YtefajplbgmikdaaDoorCmj12
namespace Go.Proofs.YtefajplbgmikdaaDoor
open Go.RowKit

def lnC (q : Value × (List Tok × Int)) : List Value := [.int .i64 0, .int .i64 0, q.1, .int .i64 q.2.2]
def lnsC (qs : List (Value × (List Tok × Int))) : List Value := qs.flatMap lnC
theorem lnsC_snoc (qs : List (Value × (List Tok × Int))) (q : Value × (List Tok × Int)) : lnsC (qs ++ [q]) = lnsC qs ++ lnC q := by simp [lnsC]
theorem infoLine : (Tryd.prog.info? 96).map (fun i => (i.zero, i.size, i.bytes)) = some (some (.agg #[.int .i64 0, .int .i64 0, .slice none 0 0, .int .i64 0]), 4, 48) := by kernel_rfl
/-- Lines, not yet read, in a row behind their tokens. -/
def LRow (w : World) (N : Nat) (v : Value) (L : List (List Tok × Int)) : Prop :=
  ∃ qs : List (Value × (List Tok × Int)), qs.map Prod.snd = L ∧ w.ownsRow N 96 4 v L.length (lnsC qs) ∧ ∀ q ∈ qs, TokRow w N q.1 q.2.1
theorem linesS_nl (en : Int) {a r : List Tok} {t : Tok} (ha : ∀ x ∈ a, x.kind ≠ 3) (ht : t.kind = 3) : linesS en (a ++ t :: r) = (if a = [] then [] else [(a, t.place)]) ++ linesS en r := by
  unfold linesS
  rw [linesA_skip en a [] _ ha, List.nil_append, linesA, if_pos ht]
theorem linesS_none (en : Int) {a : List Tok} (ha : ∀ x ∈ a, x.kind ≠ 3) (h : a ≠ []) : linesS en a = [(a, en)] := by
  have h2 := linesA_skip en a [] [] ha
  rw [List.append_nil, List.nil_append] at h2
  unfold linesS
  rw [h2, linesA, if_neg h]
theorem tok_take {w : World} {N c : Nat} {p : Option Addr} {l a r : List Tok} (h : TokRow w N (.slice p l.length c) l) (hle : l = a ++ r) : TokRow w N (.slice p a.length c) a := by
  obtain ⟨p', c', e, hl, h⟩ := h
  simp only [Value.slice.injEq, true_and] at e
  obtain ⟨rfl, rfl⟩ := e
  refine ⟨p, c, rfl, by rw [hle] at hl; simp at hl; omega, ?_⟩
  rcases h with rfl | ⟨b, o, rfl, hlt, hc⟩
  · left
    have := congrArg List.length hle
    simp at this
    exact List.eq_nil_of_length_eq_zero (by omega)
  · refine .inr ⟨b, o, rfl, hlt, fun i t hi => hc i t ?_⟩
    rw [hle, List.getElem?_append_left (List.getElem?_eq_some_iff.1 hi).1]
    exact hi
theorem tok_drop {w : World} {N b o c : Nat} {l a r : List Tok} {t : Tok} (h : TokRow w N (.slice (some ⟨b, o, none⟩) l.length c) l) (hle : l = a ++ t :: r) {np : Option Addr}
    (hnp : (if c = a.length + 1 then (some ⟨b, o, none⟩ : Option Addr) else some ⟨b, o + (a.length + 1) * 4, none⟩) = np) : TokRow w N (.slice np (l.length - (a.length + 1)) (c - (a.length + 1))) r := by
  obtain ⟨p', c', e, hl, h⟩ := h
  simp only [Value.slice.injEq, true_and] at e
  obtain ⟨rfl, rfl⟩ := e
  have hlen : l.length = a.length + (r.length + 1) := by rw [hle]; simp
  refine ⟨np, c - (a.length + 1), by rw [hlen, show a.length + (r.length + 1) - (a.length + 1) = r.length by omega], by omega, ?_⟩
  rcases h with rfl | ⟨b', o', e, hlt, hc⟩
  · simp at hlen
  · simp only [Option.some.injEq, Addr.mk.injEq, and_true] at e
    obtain ⟨rfl, rfl⟩ := e
    by_cases h0 : r = []
    · exact .inl h0
    · have := List.length_pos_iff.2 h0
      rw [if_neg (by omega)] at hnp
      subst hnp
      refine .inr ⟨b, _, rfl, hlt, fun i t' hi j v hv => ?_⟩
      have := hc (a.length + 1 + i) t' (by rw [hle, List.getElem?_append_right (by omega), show a.length + 1 + i - a.length = i + 1 by omega]; exact hi) j v hv
      rw [show o + (a.length + 1) * 4 + i * 4 + j = o + (a.length + 1 + i) * 4 + j by omega]
      exact this
theorem lrow_push {w wr V w3 : World} {v v3 lv : Value} {dn : List (List Tok × Int)} {qs : List (Value × (List Tok × Int))} {ts : List Tok} {en : Int} (hq : qs.map Prod.snd = dn) (hown : wr.ownsRow w.heap.size 96 4 v dn.length (lnsC qs))
    (htok : ∀ q ∈ qs, TokRow wr w.heap.size q.1 q.2.1) (hlv : TokRow wr w.heap.size lv ts) (hb : Bel w wr) (hV : Bel wr V)
    (hown3 : w3.ownsRow w.heap.size 96 4 v3 (dn.length + 1) (lnsC qs ++ (#[.int .i64 0, .int .i64 0, lv, .int .i64 en] : Array Value).toList)) (hg : V.grownBy w3 v.ownBlock) : LRow w3 w.heap.size v3 (dn ++ [(ts, en)]) ∧ Bel w w3 := by
  have hbw : Bel w w3 := But.bel (hb.trans hV) hg (fun k hk => (hown.lt k hk).1)
  have hr3 : Below w.heap.size wr w3 := (Below.mono hV hb.size).trans (Below.grown (Below.refl _ _) hg (hb.trans hV).size (fun k hk => (hown.lt k hk).1))
  refine ⟨⟨qs ++ [(lv, (ts, en))], by simp [hq], ?_, fun q hq => ?_⟩, hbw⟩
  · rw [lnsC_snoc, List.length_append]
    exact hown3
  · rcases List.mem_append.1 hq with hq | hq
    · exact (htok q hq).below hr3
    · rw [List.mem_singleton] at hq
      subst hq
      exact hlv.below hr3
set_option maxHeartbeats 1000000 in
set_option maxRecDepth 100000 in
theorem lines_any (l : List Tok) (lv : Value) (en : Int) (w : World) (hl : TokRow w w.heap.size lv l) (hn : l.length ≤ 1000000000) :
    Calls Tryd.prog 51 #[lv, .int .i64 en] w fun e w' => Bel w w' ∧ ∃ v, e = .returned v ∧ LRow w' w.heap.size v (linesS en l) := by
  have HL := Lib.hid hl
  obtain ⟨lp, lc, rfl, _, _⟩ := hl
  go_enter Tryd.func51, Tryd.ntmps51
  go_wp2
  go_loopg [0, 5] l.length (fun gf s0 s5 wx => ∃ (l' : List Tok) (dn : List (List Tok × Int)), TokRow wx w.heap.size s0 l' ∧ LRow wx w.heap.size s5 dn ∧ linesS en l = dn ++ linesS en l' ∧ l'.length ≤ gf ∧ dn.length + l'.length ≤ l.length ∧ Bel w wx)
  case atStart => exact ⟨l, [], HL.out, ⟨[], rfl, World.ownsRow_nil _ _ _ _, by simp⟩, rfl, Nat.le_refl _, by simp, Bel.refl w⟩
  case round =>
    obtain ⟨l', dn, htl, hrow, hsp, hgk, hlen, hbl⟩ := hrel
    have HTL := Lib.hid htl
    have HROW := Lib.hid hrow
    have HSP := Lib.hid hsp
    have HBL := Lib.hid hbl
    obtain ⟨tp, tc, rfl, htc, _⟩ := htl
    clear hrow hsp hbl HL
    by_cases h0 : l' = []
    · subst h0
      go_wp2
      go_ret
      refine ⟨HBL.out, u5, rfl, ?_⟩
      rw [HSP.out, show linesS en [] = [] from rfl, List.append_nil]
      exact HROW.out
    · have hpos : 0 < l'.length := List.length_pos_iff.2 h0
      have hdec : decide ((0 : Int) < (l'.length : Int)) = true := decide_eq_true (by omega)
      obtain ⟨qs, hqs, hown, htoks⟩ := HROW.out
      have HQS := Lib.hid hqs
      have HOWN := Lib.hid hown
      have HTK := Lib.hid htoks
      have hmx : dn.length + 1 ≤ maxLen := by unfold maxLen; omega
      have hmb : (dn.length + 1) * 48 ≤ 140737488355328 := by omega
      have HBS := Lib.hid HBL.out.size
      clear hqs hown htoks HROW
      go_upto_region 4 with (first
        | (go_at_call 68; (with_reducible refine (idxFunc_any l' _ _ (HTL.out.mono HBL.out.size) (by omega)).mono ?_); rintro e w2 ⟨n, rfl, hidx, hb2⟩; have HB2 := Lib.hid hb2; clear hb2))
      obtain ⟨V, hV⟩ : ∃ V, w2.alloc (.cells #[.int .i64 0, .int .i64 0, .slice tp l'.length tc, .int .i64 en] 96) = V := ⟨_, rfl⟩
      have hWV : Bel w2 V := hV ▸ (Bel.refl w2).alloc _
      have hTV : V.heap[w2.heap.size]? = some (.cells #[.int .i64 0, .int .i64 0, .slice tp l'.length tc, .int .i64 en] 96 (0, 0)) := hV ▸ heap_alloc_new _ _
      have HBV := Lib.hid (HB2.out.trans hWV)
      have HTV := Lib.hid hTV
      clear hWV hTV
      obtain ⟨X, hX⟩ : ∃ X, w2.heap.size = X := ⟨_, rfl⟩
      rw [hX] at HTV
      have hXV : V.heap.size = X + 1 := by rw [← hX, ← hV]; simp
      have HX : Hid (w.heap.size ≤ X) := by have := HB2.out.size; have := HBS.out; unfold Hid; omega
      have HXR : Hid (wr.heap.size ≤ X) := by have := HB2.out.size; unfold Hid; omega
      have y0 : V.cell? ⟨X, 0, none⟩ = some (.int .i64 0) := by rw [heap_cell HTV.out]; rfl
      have y1 : V.cell? ⟨X, 1, none⟩ = some (.int .i64 0) := by rw [heap_cell HTV.out]; rfl
      have y2 : V.cell? ⟨X, 2, none⟩ = some (.slice tp l'.length tc) := by rw [heap_cell HTV.out]; rfl
      have y3 : V.cell? ⟨X, 3, none⟩ = some (.int .i64 en) := by rw [heap_cell HTV.out]; rfl
      have yf : ∀ j, V.frozen? ⟨X, j, none⟩ = false := fun j => heap_frozen HTV.out j
      rcases hidx with ⟨a, t, r, hle, ha, ht, rfl⟩ | ⟨hall, rfl⟩
      · obtain ⟨b, o, c, he, hac, hbw, q0, q1, q2, q3⟩ := HTL.out.get (k := a.length) (t := t) (by rw [hle]; simp)
        simp only [Value.slice.injEq] at he
        obtain ⟨rfl, _, rfl⟩ := he
        replace q3 := HBV.out.cell q3
        have hla : a.length < l'.length := by rw [hle]; simp
        have hla2 : (a.length : Int) < (l'.length : Int) := by omega
        have HLE := Lib.hid hle
        clear q0 q1 q2 hle
        go_upto_region 8 with fail
        obtain ⟨W7, hW7⟩ : ∃ W, V.setCell ⟨X, 3, none⟩ (.int .i64 t.place) = W := ⟨_, rfl⟩
        have hT7 := heap_set HTV.out 3 (.int .i64 t.place)
        rw [hW7] at hT7 ⊢
        have HT7 : Hid (W7.heap[X]? = some (.cells #[.int .i64 0, .int .i64 0, .slice (some ⟨b, o, none⟩) l'.length tc, .int .i64 t.place] 96 (0, 0))) := hT7
        have HBR7 : Hid (Bel wr W7) := by rw [← hW7]; exact HBV.out.set HXR.out _
        have HB7 : Hid (Bel w W7) := by rw [← hW7]; exact (HBL.out.trans HBV.out).set HX.out _
        have z2 : W7.drew.cell? ⟨X, 2, none⟩ = some (.slice (some ⟨b, o, none⟩) l'.length tc) := by show W7.cell? _ = _; rw [heap_cell HT7.out]; rfl
        have zf : ∀ j, W7.drew.frozen? ⟨X, j, none⟩ = false := fun j => heap_frozen HT7.out j
        have HSZ : Hid ((W7.setCell ⟨X, 2, none⟩ (.slice (some ⟨b, o, none⟩) a.length tc)).heap.size = X + 1) := by unfold Hid; rw [World.size_setCell, ← hW7, World.size_setCell, hXV]
        clear y0 y1 y2 y3 yf hV hW7 hT7 q3
        have k1 : a.length ≤ tc := by omega
        have k2 : a.length + 1 ≤ l'.length := hla
        have k3 : (a.length : Int) + 1 ≤ (l'.length : Int) := by omega
        have k4 : IntKind.i64.wrap ((a.length : Int) + 1) = (a.length : Int) + 1 := IntWalk.i64_in _ (by omega)
        have k5 : (0 : Int) ≤ (a.length : Int) + 1 := by omega
        have k6 : ((a.length : Int) + 1).toNat = a.length + 1 := by omega
        obtain ⟨W8, hW8⟩ : ∃ W, (W7.setCell ⟨X, 2, none⟩ (.slice (some ⟨b, o, none⟩) a.length tc)).drew = W := ⟨_, rfl⟩
        have HT8 : Hid (W8.heap[X]? = some (.cells #[.int .i64 0, .int .i64 0, .slice (some ⟨b, o, none⟩) a.length tc, .int .i64 t.place] 96 (0, 0))) := by
          have := heap_set HT7.out 2 (.slice (some ⟨b, o, none⟩) a.length tc)
          rw [← hW8]
          exact this
        have HB8 : Hid (Bel w W8) := by rw [← hW8]; exact (HB7.out.set HX.out _).drew
        have HBR8 : Hid (Bel wr W8) := by rw [← hW8]; exact (HBR7.out.set HXR.out _).drew
        have HEQ := Lib.hid hW8
        have x0 : W8.cell? ⟨X, 0, none⟩ = some (.int .i64 0) := by rw [heap_cell HT8.out]; rfl
        have x1 : W8.cell? ⟨X, 1, none⟩ = some (.int .i64 0) := by rw [heap_cell HT8.out]; rfl
        have x2 : W8.cell? ⟨X, 2, none⟩ = some (.slice (some ⟨b, o, none⟩) a.length tc) := by rw [heap_cell HT8.out]; rfl
        have x3 : W8.cell? ⟨X, 3, none⟩ = some (.int .i64 t.place) := by rw [heap_cell HT8.out]; rfl
        have hX8 : W8.heap.size = X + 1 := by rw [← hW8]; exact HSZ.out
        clear hW8
        obtain ⟨np, hnp⟩ : ∃ np, (if tc = a.length + 1 then (some ⟨b, o, none⟩ : Option Addr) else some ⟨b, o + (a.length + 1) * 4, none⟩) = np := ⟨_, rfl⟩
        go_cut [0] from 8 to 42 (fun s0 wx => s0 = .slice np (l'.length - (a.length + 1)) (tc - (a.length + 1)) ∧ W8 = wx)
        case first =>
          go_region_law (fail)
          all_goals
            rw [HEQ.out]
            go_wp2
            go_meet
            exact ⟨rfl, rfl⟩
        case rest =>
        obtain ⟨rfl, rfl⟩ := hcut
        have HNP := Lib.hid hnp
        by_cases ha0 : a.length = 0
        · have ha2 : ¬ (0 < a.length) := by omega
          have HA0 := Lib.hid ha0
          clear ha0 hnp k1 k2 k3 k4 k5 k6 z2 zf
          go_wp2
          obtain ⟨gk', rfl⟩ : ∃ g, gk = g + 1 := ⟨gk - 1, by omega⟩
          have hlen' : l'.length = a.length + (r.length + 1) := by rw [HLE.out]; simp
          have HREL : Hid (TokRow W8 w.heap.size (.slice np (l'.length - (a.length + 1)) (tc - (a.length + 1))) r ∧ LRow W8 w.heap.size u5 dn ∧ linesS en l = dn ++ linesS en r ∧ Bel w W8) := by
            refine ⟨(tok_drop HTL.out HLE.out HNP.out).below (Below.mono HBR8.out HBS.out), ⟨qs, HQS.out, HBR8.out.own HOWN.out, fun q hq => (HTK.out q hq).below (Below.mono HBR8.out HBS.out)⟩, ?_, HB8.out⟩
            rw [HSP.out, HLE.out, linesS_nl en ha ht, if_pos (List.eq_nil_of_length_eq_zero HA0.out), List.nil_append]
          go_roundg gk'
          case measure => omega
          case rel => exact ⟨r, dn, HREL.out.1, HREL.out.2.1, HREL.out.2.2.1, by omega, by omega, HREL.out.2.2.2⟩
        · have ha2 : 0 < a.length := by omega
          have HA0 := Lib.hid ha0
          clear ha0 hnp k1 k2 k3 k4 k5 k6 z2 zf
          go_wp2_with (first
            | (at_builtin; go_loud (refine wpList_push rfl (.tmp 39) (.tmp 41) 92 rfl w.heap.size 96 _ 4 48 Tryd.underlying92 infoLine rfl (by decide) u5 _ _ rfl (HBR8.out.own HOWN.out) _ _ _ rfl hX8.symm rfl (by simp [Value.oneCell']) hmx hmb (Nat.le_trans HBS.out HBR8.out.size) ?_); intro v3 w3 hown3 hg3 _))
          obtain ⟨gk', rfl⟩ : ∃ g, gk = g + 1 := ⟨gk - 1, by omega⟩
          have hlen' : l'.length = a.length + (r.length + 1) := by rw [HLE.out]; simp
          have HREL : Hid (TokRow w3 w.heap.size (.slice np (l'.length - (a.length + 1)) (tc - (a.length + 1))) r ∧ (LRow w3 w.heap.size v3 (dn ++ [(a, t.place)]) ∧ Bel w w3) ∧ linesS en l = (dn ++ [(a, t.place)]) ++ linesS en r) := by
            have h3 : Below w.heap.size wr w3 := (Below.mono HBR8.out HBS.out).trans (Below.grown (Below.refl _ _) hg3 HB8.out.size (fun k hk => (HOWN.out.lt k hk).1))
            refine ⟨(tok_drop HTL.out HLE.out HNP.out).below h3, lrow_push HQS.out HOWN.out HTK.out (tok_take HTL.out HLE.out) HBL.out HBR8.out hown3 hg3, ?_⟩
            rw [HSP.out, HLE.out, linesS_nl en ha ht, if_neg (fun e => HA0.out (by rw [e]; rfl)), List.append_assoc]
          clear hown3 hg3
          go_roundg gk'
          case measure => omega
          case rel => exact ⟨r, dn ++ [(a, t.place)], HREL.out.1, HREL.out.2.1.1, HREL.out.2.2, by omega, by simp; omega, HREL.out.2.1.2⟩
      · go_upto_region 9 with fail
        go_wp2_with (first
          | (at_builtin; (refine wpList_push rfl (.tmp 39) (.tmp 41) 92 rfl w.heap.size 96 _ 4 48 Tryd.underlying92 infoLine rfl (by decide) u5 _ _ rfl (HBV.out.own HOWN.out) _ _ _ rfl hXV.symm rfl (by simp [Value.oneCell']) hmx hmb (Nat.le_trans HBS.out HBV.out.size) ?_); intro v3 w3 hown3 hg3 _))
        obtain ⟨gk', rfl⟩ : ∃ g, gk = g + 1 := ⟨gk - 1, by omega⟩
        have HREL : Hid ((LRow w3 w.heap.size v3 (dn ++ [(l', en)]) ∧ Bel w w3) ∧ linesS en l = (dn ++ [(l', en)]) ++ linesS en []) := by
          refine ⟨lrow_push HQS.out HOWN.out HTK.out HTL.out HBL.out HBV.out hown3 hg3, ?_⟩
          rw [HSP.out, linesS_none en hall h0, show linesS en [] = [] from rfl, List.append_nil]
        clear hown3 hg3
        go_roundg gk'
        case measure => omega
        case rel => exact ⟨[], dn ++ [(l', en)], ⟨none, 0, rfl, Nat.le_refl _, .inl rfl⟩, HREL.out.1.1, HREL.out.2, by simp, by simp; omega, HREL.out.1.2⟩
end Go.Proofs.YtefajplbgmikdaaDoor

/-
  What the walk of Parse goes by: lines in a row, those read and those not yet read; results in a row.
-/
namespace Go.Proofs.YtefajplbgmikdaaDoor
open Go.RowKit

theorem linesA_ne (en : Int) : ∀ (l acc : List Tok), ∀ x ∈ linesA en acc l, x.1 ≠ []
  | [], acc, x, hx => by
    rw [linesA] at hx
    split at hx
    · simp at hx
    · rename_i h
      rw [List.mem_singleton] at hx
      rw [hx]; exact h
  | t :: r, acc, x, hx => by
    rw [linesA] at hx
    split at hx
    · rcases List.mem_append.1 hx with hx | hx
      · split at hx
        · simp at hx
        · rename_i h
          rw [List.mem_singleton] at hx
          rw [hx]; exact h
      · exact linesA_ne en r [] x hx
    · exact linesA_ne en r _ x hx
theorem linesA_all (en : Int) (P : Tok → Prop) : ∀ (l acc : List Tok), (∀ t ∈ l, P t) → (∀ t ∈ acc, P t) → ∀ x ∈ linesA en acc l, ∀ t ∈ x.1, P t
  | [], acc, _, ha, x, hx => by
    rw [linesA] at hx
    split at hx
    · simp at hx
    · rw [List.mem_singleton] at hx
      rw [hx]; exact ha
  | t :: r, acc, hl, ha, x, hx => by
    have hr : ∀ y ∈ r, P y := fun y hy => hl y (by simp [hy])
    rw [linesA] at hx
    split at hx
    · rcases List.mem_append.1 hx with hx | hx
      · split at hx
        · simp at hx
        · rw [List.mem_singleton] at hx
          rw [hx]; exact ha
      · exact linesA_all en P r [] hr (by simp) x hx
    · exact linesA_all en P r _ hr (fun y hy => by
        rcases List.mem_append.1 hy with hy | hy
        · exact ha y hy
        · rw [List.mem_singleton] at hy; rw [hy]; exact hl t (by simp)) x hx
theorem wts_mem {x : List Tok × Int} : ∀ {L : List (List Tok × Int)}, x ∈ L → wt x.1 ≤ wts L
  | y :: L, h => by
    unfold wts
    simp only [List.map_cons, List.sum_cons]
    rcases List.mem_cons.1 h with rfl | h
    · omega
    · have := wts_mem h
      unfold wts at this
      omega
theorem wts_len : ∀ {L : List (List Tok × Int)}, (∀ x ∈ L, x.1 ≠ []) → L.length ≤ wts L
  | [], _ => Nat.le_refl _
  | y :: L, h => by
    have h1 := wts_len (L := L) (fun x hx => h x (by simp [hx]))
    have h2 := wt_ge y.1
    have h3 : 0 < y.1.length := List.length_pos_iff.2 (h y (by simp))
    unfold wts at h1 ⊢
    simp only [List.map_cons, List.sum_cons, List.length_cons]
    omega
/-- What is known of the lines of tokens. -/
structure LnsOk (L : List (List Tok × Int)) : Prop where
  ne : ∀ x ∈ L, x.1 ≠ []
  tok : ∀ x ∈ L, ∀ t ∈ x.1, TkOk t
  wt : ∀ x ∈ L, wt x.1 ≤ 800000000
  pl : ∀ x ∈ L, 0 ≤ x.2 ∧ Pl x.1
  len : L.length ≤ 3000000
theorem lns_ok {l : List Tok} {en : Int} (hen : 0 ≤ en) (hl : ∀ t ∈ l, TkOk t) (hw : wt l ≤ 3000000) : LnsOk (linesS en l) := by
  have hp : Pl l := fun t ht => (hl t ht).1
  have h1 := linesA_facts en hen l [] hp (fun t ht => by simp at ht)
  have h2 := linesA_ne en l []
  have h3 : wts (linesS en l) ≤ wt l := by have := h1.2; simp only [wt] at this; unfold linesS; omega
  have h4 := wts_len h2
  exact ⟨h2, linesA_all en TkOk l [] hl (by simp), fun x hx => by have := wts_mem hx; omega, h1.1, by unfold linesS at h3 ⊢; omega⟩
def preR (ys : List Ln) : Except Int (List Ln) → Except Int (List Ln)
  | .ok l => .ok (ys ++ l)
  | .error e => .error e
theorem preR_nil (R : Except Int (List Ln)) : preR [] R = R := by cases R <;> rfl
theorem reads_ok {f : Bool} {x : List Tok × Int} {y : Ln} {ys : List Ln} {r : List (List Tok × Int)} (h : readC f x = .ok y) : preR ys (readsC f (x :: r)) = preR (ys ++ [y]) (readsC false r) := by
  rw [readsC, h]
  dsimp only
  cases readsC false r <;> simp [preR]
theorem reads_err {f : Bool} {x : List Tok × Int} {e : Int} {ys : List Ln} {r : List (List Tok × Int)} (h : readC f x = .error e) : preR ys (readsC f (x :: r)) = .error e := by
  rw [readsC, h]; rfl
theorem read_en {f : Bool} {ts : List Tok} {en : Int} {y : Ln} (h : readC f (ts, en) = .ok y) : y.en = en := by
  cases ts with
  | nil => simp [readC] at h
  | cons t r =>
    rw [readC] at h
    split at h
    · cases h
    split at h
    · cases h
    rw [Except.ok.injEq] at h
    rw [← h]
/-- A line that is not yet read, in its cells. -/
def UnL (w : World) (G : Nat) (cs : Array Value) (i : Nat) (x : List Tok × Int) : Prop := ∃ lv, cs[i * 4 + 2]? = some lv ∧ cs[i * 4 + 3]? = some (.int .i64 x.2) ∧ TokRow w G lv x.1
/-- A line that was read. -/
def RdL (w : World) (G : Nat) (cs : Array Value) (i : Nat) (y : Ln) : Prop :=
  cs[i * 4]? = some (.int .i64 y.kind) ∧ cs[i * 4 + 1]? = some (.int .i64 y.place) ∧ ∃ lv, cs[i * 4 + 2]? = some lv ∧ cs[i * 4 + 3]? = some (.int .i64 y.en) ∧ TokRow w G lv y.l
/-- Lines, the first of them read. -/
def RSt (w : World) (G : Nat) (L : List (List Tok × Int)) (ys : List Ln) : Prop :=
  ∃ cs : Array Value, w.heap[G]? = some (.cells cs 96 (0, 0)) ∧ L.length * 4 ≤ cs.size ∧ (∀ (i : Nat) (y : Ln), ys[i]? = some y → RdL w G cs i y) ∧ ∀ (i : Nat) (x : List Tok × Int), L[i]? = some x → ys.length ≤ i → UnL w G cs i x
theorem RSt.bel {w w' : World} {G : Nat} {L : List (List Tok × Int)} {ys : List Ln} (h : RSt w G L ys) (hb : Bel w w') : RSt w' G L ys := by
  obtain ⟨cs, h1, h2, h3, h4⟩ := h
  have hG := heap_lt h1
  have hbl : Below G w w' := Below.mono hb (Nat.le_of_lt hG)
  refine ⟨cs, hb.heap h1, h2, fun i y hi => ?_, fun i x hi hk => ?_⟩
  · obtain ⟨a, b, lv, c, d, e⟩ := h3 i y hi
    exact ⟨a, b, lv, c, d, e.below hbl⟩
  · obtain ⟨lv, c, d, e⟩ := h4 i x hi hk
    exact ⟨lv, c, d, e.below hbl⟩
theorem lrow_rst {w : World} {N : Nat} {v : Value} {L : List (List Tok × Int)} (h : LRow w N v L) (hn : L ≠ []) : ∃ G c, v = .slice (some ⟨G, 0, none⟩) L.length c ∧ N ≤ G ∧ L.length ≤ c ∧ RSt w G L [] := by
  obtain ⟨qs, hq, ⟨hl2, h0 | ⟨g, cap, cur, rfl, hb, hg, hc, _, hsz, ht⟩⟩, htok⟩ := h
  · exact absurd (List.eq_nil_of_length_eq_zero h0.2) hn
  · refine ⟨g, cap, rfl, hb, hc, cur, hg, by rw [hsz]; exact Nat.mul_le_mul_right _ hc, fun i y hi => by simp at hi, fun i x hi _ => ?_⟩
    have hqi : ∃ q, qs[i]? = some q ∧ q.2 = x := by
      rw [← hq, List.getElem?_map] at hi
      obtain ⟨q, h1, h2⟩ := Option.map_eq_some_iff.1 hi
      exact ⟨q, h1, h2⟩
    obtain ⟨q, hqi, rfl⟩ := hqi
    have hat : ∀ (j : Nat) (u : Value), (lnC q)[j]? = some u → cur[i * 4 + j]? = some u := fun j u hj => by
      have h3 : (lnsC qs)[i * 4 + j]? = some u := flat_at (f := lnC) (n := 4) (fun _ _ => rfl) hqi hj
      rw [← ht, List.getElem?_take] at h3
      rw [← Array.getElem?_toList]
      split at h3
      · exact h3
      · cases h3
    exact ⟨q.1, hat 2 _ rfl, hat 3 _ rfl, (htok q (List.mem_of_getElem? hqi)).mono hb⟩
theorem rst_step {w w' : World} {G : Nat} {L : List (List Tok × Int)} {ys : List Ln} {cs : Array Value} {y : Ln} {x : List Tok × Int} {lv' : Value} (h1 : w.heap[G]? = some (.cells cs 96 (0, 0))) (h2 : L.length * 4 ≤ cs.size)
    (h3 : ∀ (i : Nat) (y : Ln), ys[i]? = some y → RdL w G cs i y) (h4 : ∀ (i : Nat) (x : List Tok × Int), L[i]? = some x → ys.length ≤ i → UnL w G cs i x) (hx : L[ys.length]? = some x) (hen : y.en = x.2) (hg : w.grownBy w' (some G))
    (hc : w'.heap[G]? = some (.cells (((cs.setIfInBounds (ys.length * 4) (.int .i64 y.kind)).setIfInBounds (ys.length * 4 + 1) (.int .i64 y.place)).setIfInBounds (ys.length * 4 + 2) lv') 96 (0, 0))) (ht : TokRow w' G lv' y.l) : RSt w' G L (ys ++ [y]) := by
  have hbl := grown_below hg (heap_lt h1)
  have hk : ys.length < L.length := (List.getElem?_eq_some_iff.1 hx).1
  refine ⟨_, hc, by simpa using h2, fun i y' hi => ?_, fun i x' hi hki => ?_⟩
  · by_cases hlt : i < ys.length
    · rw [List.getElem?_append_left hlt] at hi
      obtain ⟨a, b, lv, c, d, e⟩ := h3 i y' hi
      refine ⟨?_, ?_, lv, ?_, ?_, e.below hbl⟩
      all_goals
        rw [Array.getElem?_setIfInBounds_ne (by omega), Array.getElem?_setIfInBounds_ne (by omega), Array.getElem?_setIfInBounds_ne (by omega)]
        assumption
    · have hie : i = ys.length := by
        have := (List.getElem?_eq_some_iff.1 hi).1
        simp at this
        omega
      subst hie
      rw [List.getElem?_append_right (Nat.le_refl _), Nat.sub_self, List.getElem?_cons_zero, Option.some.injEq] at hi
      subst hi
      obtain ⟨lv, c, d, e⟩ := h4 _ x hx (Nat.le_refl _)
      refine ⟨?_, ?_, lv', ?_, ?_, ht⟩
      · rw [Array.getElem?_setIfInBounds_ne (by omega), Array.getElem?_setIfInBounds_ne (by omega), Array.getElem?_setIfInBounds_self_of_lt (by omega)]
      · rw [Array.getElem?_setIfInBounds_ne (by omega), Array.getElem?_setIfInBounds_self_of_lt (by simp; omega)]
      · rw [Array.getElem?_setIfInBounds_self_of_lt (by simp; omega)]
      · rw [Array.getElem?_setIfInBounds_ne (by omega), Array.getElem?_setIfInBounds_ne (by omega), Array.getElem?_setIfInBounds_ne (by omega), d, hen]
  · simp only [List.length_append, List.length_singleton] at hki
    obtain ⟨lv, c, d, e⟩ := h4 i x' hi (by omega)
    refine ⟨lv, ?_, ?_, e.below hbl⟩
    all_goals
      rw [Array.getElem?_setIfInBounds_ne (by omega), Array.getElem?_setIfInBounds_ne (by omega), Array.getElem?_setIfInBounds_ne (by omega)]
      assumption

/-- A command's cells. -/
def cmC (q : (Value × Value) × Cm) : List Value := [.int .i64 q.2.kind, q.1.1, q.1.2, .int .i64 q.2.place]
def cmsC (qs : List ((Value × Value) × Cm)) : List Value := qs.flatMap cmC
theorem infoCmd : (Tryd.prog.info? 73).map (fun i => (i.zero, i.size, i.bytes)) = some (some (.agg #[.int .i64 0, .slice none 0 0, .slice none 0 0, .int .i64 0]), 4, 64) := by kernel_rfl
/-- What a command has, in the world. -/
def CmHas (w : World) (base : Nat) (q : (Value × Value) × Cm) : Prop :=
  w.ownsRow base 2 1 q.1.1 q.2.n.length (q.2.n.map fun x => .int .i64 x) ∧ SRow w base q.1.2 q.2.path ∧ ∀ s ∈ q.2.path, s.v.length = 6
/-- Commands that the program made, in a row. -/
def ResRow (w : World) (base : Nat) (v : Value) (l : List Cm) : Prop :=
  ∃ qs : List ((Value × Value) × Cm), qs.map Prod.snd = l ∧ w.ownsRow base 73 4 v l.length (cmsC qs) ∧ ∀ q ∈ qs, CmHas w base q
theorem CmHas.bel {w w' : World} {base : Nat} {q : (Value × Value) × Cm} (h : CmHas w base q) (hb : Bel w w') : CmHas w' base q := ⟨Bel.own hb h.1, h.2.1.bel hb, h.2.2⟩
theorem ResRow.bel {w w' : World} {base : Nat} {v : Value} {l : List Cm} (h : ResRow w base v l) (hb : Bel w w') : ResRow w' base v l := by
  obtain ⟨qs, h1, h2, h3⟩ := h
  exact ⟨qs, h1, Bel.own hb h2, fun q hq => (h3 q hq).bel hb⟩
theorem CmHas.base {w : World} {b b' : Nat} {q : (Value × Value) × Cm} (h : CmHas w b q) (hb : b' ≤ b) : CmHas w b' q := ⟨own_base h.1 hb, own_base h.2.1 hb, h.2.2⟩
theorem ResRow.base {w : World} {b b' : Nat} {v : Value} {l : List Cm} (h : ResRow w b v l) (hb : b' ≤ b) : ResRow w b' v l := by
  obtain ⟨qs, h1, h2, h3⟩ := h
  exact ⟨qs, h1, own_base h2 hb, fun q hq => (h3 q hq).base hb⟩
theorem ResRow.nil (w : World) (b : Nat) : ResRow w b (.slice none 0 0) [] := ⟨[], rfl, World.ownsRow_nil _ _ _ _, by simp⟩
theorem own_slice {w : World} {b e size n : Nat} {v : Value} {xs : List Value} (h : w.ownsRow b e size v n xs) : ∃ p m c, v = .slice p m c := by
  rcases h.2 with hn | ⟨g, cap, cur, rfl, _⟩
  · exact ⟨_, _, _, hn.1⟩
  · exact ⟨_, _, _, rfl⟩
theorem own_apart {w : World} {b b' e e' size size' n n' : Nat} {v v' : Value} {xs xs' : List Value} (h : w.ownsRow b e size v n xs) (h' : w.ownsRow b' e' size' v' n' xs') (he : e ≠ e') : ∀ k, v.ownBlock = some k → v'.ownBlock ≠ some k := fun k hk hk' => by
  obtain ⟨cs, h1⟩ := own_type h hk
  obtain ⟨cs', h2⟩ := own_type h' hk'
  rw [h1] at h2
  simp only [Option.some.injEq, Obj.cells.injEq] at h2
  exact he h2.2.1
theorem own_grown {w w' : World} {b b' e e' size size' n n' : Nat} {v v' : Value} {xs xs' : List Value} (h : w.ownsRow b e size v n xs) (h' : w.ownsRow b' e' size' v' n' xs') (he : e ≠ e') (hg : w.grownBy w' v'.ownBlock) : w'.ownsRow b e size v n xs :=
  own_keep h fun k hk => hg.block k (h.lt k hk).2 (fun e2 => own_apart h h' he k hk e2.symm)
theorem res_push {w0 wr V w3 : World} {v v3 nv pv : Value} {base : Nat} {dn : List Cm} {qs : List ((Value × Value) × Cm)} {c : Cm} (hq : qs.map Prod.snd = dn) (hown : wr.ownsRow base 73 4 v dn.length (cmsC qs)) (hhas : ∀ q ∈ qs, CmHas wr base q)
    (hV : Bel wr V) (hc : CmHas V base ((nv, pv), c)) (hown3 : w3.ownsRow base 73 4 v3 (dn.length + 1) (cmsC qs ++ [.int .i64 c.kind, nv, pv, .int .i64 c.place])) (hg : V.grownBy w3 v.ownBlock) (h0 : Bel w0 wr) (hb : w0.heap.size ≤ base) : ResRow w3 base v3 (dn ++ [c]) ∧ Bel w0 w3 := by
  have ho := Bel.own hV hown
  refine ⟨⟨qs ++ [((nv, pv), c)], by simp [hq], by simpa [cmsC, cmC] using hown3, fun q hq => ?_⟩, But.bel (h0.trans hV) hg fun k hk => Nat.le_trans hb (ho.lt k hk).1⟩
  have hall : CmHas V base q := by
    rcases List.mem_append.1 hq with hq | hq
    · exact (hhas q hq).bel hV
    · rw [List.mem_singleton] at hq
      subst hq
      exact hc
  exact ⟨own_grown hall.1 ho (by decide) hg, own_grown hall.2.1 ho (by decide) hg, hall.2.2⟩
theorem numrow_own2 {w : World} {base : Nat} {v : Value} {l : List Int} (h : w.ownsRow base 2 1 v l.length (l.map fun x => .int .i64 x)) : NumRow w v l := by
  obtain ⟨hlen, h0 | ⟨g, cap, cur, rfl, hb, hg, hc, _, hsz, ht⟩⟩ := h
  · have : l = [] := List.eq_nil_of_length_eq_zero h0.2
    subst this
    exact ⟨none, 0, h0.1, Nat.le_refl _, fun e => absurd rfl e⟩
  · refine ⟨some ⟨g, 0, none⟩, cap, rfl, hc, fun _ => ⟨g, 0, rfl, fun j x hj => ?_⟩⟩
    rw [heap_cell hg, Nat.zero_add, ← Array.getElem?_toList]
    have h2 : (cur.toList.take (l.length * 1))[j]? = some (.int .i64 x) := by rw [ht, List.getElem?_map, hj]; rfl
    rw [List.getElem?_take] at h2
    split at h2
    · exact h2
    · cases h2
theorem ResRow.cmd {w : World} {base : Nat} {v : Value} {l : List Cm} (h : ResRow w base v l) : CmdRow w v l := by
  obtain ⟨qs, rfl, ⟨hl2, h0 | ⟨g, cap, cur, rfl, hb, hg, hc, _, hsz, ht⟩⟩, h3⟩ := h
  · refine ⟨none, 0, by rw [h0.1, h0.2], by omega, fun i c hi => ?_⟩
    rw [List.eq_nil_of_length_eq_zero h0.2] at hi
    simp at hi
  · refine ⟨some ⟨g, 0, none⟩, cap, rfl, hc, fun i c hi => ?_⟩
    rw [List.getElem?_map] at hi
    obtain ⟨q, hqi, rfl⟩ := Option.map_eq_some_iff.1 hi
    have hat : ∀ (j : Nat) (u : Value), (cmC q)[j]? = some u → w.cell? ⟨g, 0 + i * 4 + j, none⟩ = some u := fun j u hj => by
      have h4 : (cmsC qs)[i * 4 + j]? = some u := flat_at (f := cmC) (n := 4) (fun _ _ => rfl) hqi hj
      rw [← ht, List.getElem?_take] at h4
      rw [heap_cell hg, Nat.zero_add, ← Array.getElem?_toList]
      split at h4
      · exact h4
      · cases h4
    obtain ⟨n1, n2, n3⟩ := h3 q (List.mem_of_getElem? hqi)
    exact ⟨g, 0, q.1.1, q.1.2, rfl, ⟨hat 0 _ rfl, hat 1 _ rfl, hat 2 _ rfl, hat 3 _ rfl⟩, numrow_own2 n1, n2.read n3, n3⟩
/-- What Parse tells. -/
def PPost (w : World) (s : List UInt8) (e : Ending) (w' : World) : Prop :=
  Bel w w' ∧ ∃ v, e = .returned (.tuple #[v, .int .i64 (parseC s).2.1, .int .i64 (parseC s).2.2]) ∧ ResRow w' w.heap.size v (parseC s).1
theorem cms_step {ys : List Ln} {k : Nat} {y : Ln} {c : Cm} {cms : List Cm} (hy : ys[k]? = some y) (hk : ¬ 4096 ≤ k) (hc : cmdC y = .ok c) (h : cmdsC ys 0 = (cms ++ (cmdsC (ys.drop k) k).1, (cmdsC (ys.drop k) k).2)) :
    cmdsC ys 0 = ((cms ++ [c]) ++ (cmdsC (ys.drop (k + 1)) (k + 1)).1, (cmdsC (ys.drop (k + 1)) (k + 1)).2) := by
  have hlt := (List.getElem?_eq_some_iff.1 hy)
  obtain ⟨hlt, rfl⟩ := hlt
  rw [h, List.drop_eq_getElem_cons hlt, cmdsC, if_neg hk, hc]
  simp
theorem cms_end {ys : List Ln} {k : Nat} {cms : List Cm} (hk : ys.length ≤ k) (h : cmdsC ys 0 = (cms ++ (cmdsC (ys.drop k) k).1, (cmdsC (ys.drop k) k).2)) : cmdsC ys 0 = (cms, 0, 0) := by
  rw [h, List.drop_of_length_le hk, cmdsC]; simp
theorem cms_many {ys : List Ln} {k : Nat} {y : Ln} {cms : List Cm} (hy : ys[k]? = some y) (hk : 4096 ≤ k) (h : cmdsC ys 0 = (cms ++ (cmdsC (ys.drop k) k).1, (cmdsC (ys.drop k) k).2)) : cmdsC ys 0 = (cms, y.place, 22) := by
  obtain ⟨hlt, rfl⟩ := List.getElem?_eq_some_iff.1 hy
  rw [h, List.drop_eq_getElem_cons hlt, cmdsC, if_pos hk]; simp
theorem cms_err {ys : List Ln} {k : Nat} {y : Ln} {cms : List Cm} {a c : Int} (hy : ys[k]? = some y) (hk : ¬ 4096 ≤ k) (hc : cmdC y = .error (a, c)) (h : cmdsC ys 0 = (cms ++ (cmdsC (ys.drop k) k).1, (cmdsC (ys.drop k) k).2)) : cmdsC ys 0 = (cms, a, c) := by
  obtain ⟨hlt, rfl⟩ := List.getElem?_eq_some_iff.1 hy
  rw [h, List.drop_eq_getElem_cons hlt, cmdsC, if_neg hk, hc]; simp
theorem lnl_at : ∀ {ys : List Ln} {f : Bool}, LnL f ys → ∀ (k : Nat) (y : Ln), ys[k]? = some y → ∃ f', LnOk f' y
  | y :: ys, f, h, 0, z, hz => by
    rw [List.getElem?_cons_zero, Option.some.injEq] at hz
    subst hz
    exact ⟨f, h.1⟩
  | y :: ys, f, h, k + 1, z, hz => lnl_at h.2 k z (by simpa using hz)
theorem reads_len : ∀ {L : List (List Tok × Int)} {f : Bool} {ys : List Ln}, readsC f L = .ok ys → ys.length = L.length
  | [], f, ys, h => by
    simp only [readsC, Except.ok.injEq] at h
    rw [← h]; rfl
  | x :: L, f, ys, h => by
    rw [readsC] at h
    split at h
    · cases h
    · split at h
      · rename_i l hl
        rw [Except.ok.injEq] at h
        rw [← h, List.length_cons, List.length_cons, reads_len hl]
      · cases h
/-- Of what a line was read. -/
theorem read_sub {f : Bool} {x : List Tok × Int} {y : Ln} (h : readC f x = .ok y) : ∃ t, x.1 = t :: y.l := by
  obtain ⟨ts, en⟩ := x
  cases ts with
  | nil => simp [readC] at h
  | cons t r =>
    rw [readC] at h
    split at h
    · cases h
    split at h
    · cases h
    rw [Except.ok.injEq] at h
    exact ⟨t, by rw [← h]⟩
theorem reads_sub : ∀ {L : List (List Tok × Int)} {f : Bool} {ys : List Ln}, readsC f L = .ok ys → ∀ (k : Nat) (y : Ln), ys[k]? = some y → ∃ x ∈ L, ∃ t, x.1 = t :: y.l
  | [], f, ys, h, k, y, hy => by
    simp only [readsC, Except.ok.injEq] at h
    subst h
    simp at hy
  | x :: L, f, ys, h, k, y, hy => by
    rw [readsC] at h
    split at h
    · cases h
    · rename_i y0 h0
      split at h
      · rename_i l hl
        rw [Except.ok.injEq] at h
        subst h
        cases k with
        | zero =>
          rw [List.getElem?_cons_zero, Option.some.injEq] at hy
          subst hy
          obtain ⟨t, ht⟩ := read_sub h0
          exact ⟨x, by simp, t, ht⟩
        | succ k =>
          obtain ⟨z, hz, t, ht⟩ := reads_sub hl k y (by simpa using hy)
          exact ⟨z, by simp [hz], t, ht⟩
      · cases h
end Go.Proofs.YtefajplbgmikdaaDoor
