/-
  Limbs appended one by one; the walks of nat.Of, nat.Add.
-/
import Derived.Test.YtafmfnpjhhaikaaGreatDoorZaa
import Derived.RangeFuncNested
import Derived.RangeFuncBound
import Derived.RangeFuncCalls
import Derived.RangeFuncLeaves
import Derived.RangeFuncBox
import Derived.Shelf.Abstract
import Derived.Shelf.RegionOpen
import Derived.OwnWalkIn
import Derived.TacticsInMore
import Derived.LoopNIn
import Derived.LoopIn
import Derived.Sort.QuietTacIn
import Derived.Sort.BigQuietIn
import Derived.BigFrameIn
namespace Go.Proofs.YtafmfnpjhhaikaaGreatDoor
open Go.RowKit
theorem infoU64 : (Tryz.prog.info? 105).map (fun i => (i.zero, i.size, i.bytes)) = some (some (.int .u64 0), 1, 8) := by kernel_rfl
theorem grown_bel {w0 W w' : World} {base e size n : Nat} {v : Value} {xs : List Value} (hb : Bel w0 W) (hown : W.ownsRow base e size v n xs) (hbase : w0.heap.size ≤ base) (hg : W.grownBy w' v.ownBlock) : Bel w0 w' :=
  But.bel hb hg fun k hk => Nat.le_trans hbase (hown.lt k hk).1
theorem wpList_limb64 {W w0 : World} {ops : Array Oper} {rest : List Oper} {o : Oper} {a : Act} {Q : Exit → Act → World → Prop} (hgd : o.guard = none) (s x : Operand)
    (ho : o.op = .call { callee := .builtin .append, args := #[s, x], argTypes := #[22, 22] }) (v : Value) (l : List Nat) (hs : a.eval s = v) (hown : O64 W w0.heap.size v l) (hb : Bel w0 W)
    (g : Nat) (hx : a.eval x = .slice (some ⟨g, 0, none⟩) 1 1) (hg : g = W.heap.size) (y : Nat) (hy : y < B64) (hl : l.length < 1000000000000)
    (h : ∀ g' c w', O64 w' w0.heap.size (.slice (some ⟨g', 0, none⟩) (l.length + 1) c) (l ++ [y]) → Bel w0 w' → wpList Tryz.prog ops Q rest (a.put o.dst (.slice (some ⟨g', 0, none⟩) (l.length + 1) c)) w') :
    wpList Tryz.prog ops Q (o :: rest) a (W.alloc (.cells #[.int .u64 (y : Int)] 105)) := by
  refine wpList_push hgd s x 22 ho w0.heap.size 105 _ 1 8 Tryz.underlying22 infoU64 rfl (by decide) v l.length _ hs hown.1 #[.int .u64 (y : Int)] (0, 0) g hx hg rfl (by simp [Value.oneCell']) (by unfold maxLen; omega) (by omega) hb.size ?_
  intro v' w' ho' hg' hne
  rcases ho'.2 with ⟨rfl, _⟩ | ⟨g', cap, cur, rfl, hbb, rest'⟩
  · exact absurd rfl hne
  · exact h g' cap w' ⟨by rw [List.length_append, List.length_singleton, List.map_append]; exact ho', all_snoc hown.2 hy⟩ (grown_bel hb hown.1 (Nat.le_refl _) hg')
set_option maxRecDepth 100000 in
theorem natOf_any (x : Nat) (hx : x < B64) (w : World) : Calls Tryz.prog 116 #[.int .u64 (x : Int)] w fun e w' => ∃ p c, e = .returned (.slice p (limB B64 x).length c) ∧ O64 w' w.heap.size (.slice p (limB B64 x).length c) (limB B64 x) ∧ Bel w w' := by
  by_cases h0 : x = 0
  · subst h0
    rw [lim_zero]
    go_enter Tryz.func116, Tryz.ntmps116
    go_wp2
    go_ret
    exact ⟨none, 0, rfl, LOwn.nil _ _ _ _ _, Bel.refl w⟩
  · rw [lim_small b64_two (by omega) hx]
    have h0' : ((x : Int) == 0) = false := beq_false_of_ne (by omega)
    clear h0
    go_enter Tryz.func116, Tryz.ntmps116
    go_wp2
    go_ret
    refine ⟨some ⟨w.heap.size, 0, none⟩, 1, rfl, ⟨⟨rfl, .inr ⟨w.heap.size, 1, _, rfl, Nat.le_refl _, heap_alloc_new w _, Nat.le_refl _, by decide, rfl, rfl⟩⟩, fun y hy => by simp at hy; omega⟩, (Bel.refl w).alloc _⟩
theorem run_addc (x y c : Nat) (hc : c ≤ 1) (w : World) : (callFunc 179 #[.int .u64 (x : Int), .int .u64 (y : Int), .int .u64 (c : Int)]).run Tryz.prog w =
    .ok (.value (.tuple #[.int .u64 (((x + y + c) % B64 : Nat) : Int), .int .u64 (((x + y + c) / B64 : Nat) : Int)])) w := by
  rw [run_callFunc_extern Tryz.func179 (by kernel_rfl) (by kernel_rfl) (by kernel_rfl) (e := add64Entry) (by kernel_rfl), run_add64 x y c (by omega) (by omega) (by omega) (by omega)]
  unfold B64
  rw [Int.natCast_emod, Int.natCast_ediv]
  rfl
def sub64Entry : Array Value → Sem Value := fun args => do
  let (x, y, b) ← Extern.MathBitsCarry.three "Sub64" args
  pure (Extern.MathBitsCarry.pair ((x + Extern.MathBitsCarry.m64 - y - b) % Extern.MathBitsCarry.m64) (if x < y + b then 1 else 0))
theorem run_sub64e {P : Program} (x y c : Nat) (hc : c ≤ 1) (w : World) : (sub64Entry #[.int .u64 (x : Int), .int .u64 (y : Int), .int .u64 (c : Int)]).run P w =
    .ok (Extern.MathBitsCarry.pair ((x + Extern.MathBitsCarry.m64 - y - c) % Extern.MathBitsCarry.m64) (if x < y + c then 1 else 0)) w := by
  have : c = 0 ∨ c = 1 := by omega
  rcases this with rfl | rfl <;> rfl
theorem run_subc (x y c : Nat) (hc : c ≤ 1) (w : World) : (callFunc 207 #[.int .u64 (x : Int), .int .u64 (y : Int), .int .u64 (c : Int)]).run Tryz.prog w =
    .ok (.value (.tuple #[.int .u64 (((x + B64 - y - c) % B64 : Nat) : Int), .int .u64 ((if x < y + c then 1 else 0 : Nat) : Int)])) w := by
  rw [run_callFunc_extern Tryz.func207 (by kernel_rfl) (by kernel_rfl) (by kernel_rfl) (e := sub64Entry) (by kernel_rfl), run_sub64e x y c hc]
  rfl
theorem sub_plain {x y c : Nat} (hx : x < B64) (hy : y < B64) (hc : c ≤ 1) : (x + B64 - y - c) % B64 + y + c = x + (if x < y + c then 1 else 0) * B64 ∧ (x + B64 - y - c) % B64 < B64 ∧ (if x < y + c then 1 else 0 : Nat) ≤ 1 := by
  refine ⟨?_, Nat.mod_lt _ b64_pos, by split <;> omega⟩
  by_cases h : x < y + c
  · rw [if_pos h, Nat.mod_eq_of_lt (by omega)]; omega
  · rw [if_neg h]
    have e : x + B64 - y - c = (x - y - c) + B64 := by omega
    rw [e, Nat.add_mod_right, Nat.mod_eq_of_lt (by omega)]
    omega
theorem add_plain {x y c : Nat} (hx : x < B64) (hy : y < B64) (hc : c ≤ 1) : (x + y + c) % B64 < B64 ∧ (x + y + c) / B64 ≤ 1 := by
  refine ⟨Nat.mod_lt _ b64_pos, ?_⟩
  have : (x + y + c) / B64 < 2 := by rw [Nat.div_lt_iff_lt_mul b64_pos]; omega
  omega
set_option maxHeartbeats 1000000 in
set_option maxRecDepth 100000 in
theorem natAdd_any (p1 p2 : Option Addr) (c1 c2 : Nat) (l1 l2 : List Nat) (w : World) (h1 : R64 w (.slice p1 l1.length c1) l1) (h2 : R64 w (.slice p2 l2.length c2) l2) (hl1 : l1.length < 1000000000) (hl2 : l2.length < 1000000000) :
    Calls Tryz.prog 175 #[.slice p1 l1.length c1, .slice p2 l2.length c2] w fun e w' => ∃ p c, e = .returned (.slice p (limB B64 (valB B64 l1 + valB B64 l2)).length c) ∧
      O64 w' w.heap.size (.slice p (limB B64 (valB B64 l1 + valB B64 l2)).length c) (limB B64 (valB B64 l1 + valB B64 l2)) ∧ Bel w w' := by
  have HV : Hid (limB B64 (valB B64 l1 + valB B64 l2) = limB B64 (valB B64 l1 + valB B64 l2)) := rfl
  have H1 := Lib.hid h1
  have H2 := Lib.hid h2
  have HA1 := Lib.hid h1.all
  have HA2 := Lib.hid h2.all
  obtain ⟨N, hN⟩ : ∃ N, max l1.length l2.length = N := ⟨_, rfl⟩
  have hN1 : N < 1000000000 := by omega
  have HN := Lib.hid hN
  have hmax : max (l1.length : Int) (l2.length : Int) = (N : Int) := by omega
  clear h1 h2 hN
  go_enter Tryz.func175, Tryz.ntmps175
  go_wp2
  go_loopg [5, 6, 15] N (fun gf s5 s6 s15 wx => ∃ (i c : Nat) (o : List Nat) (p : Option Addr) (cp : Nat), s15 = .int .i64 i ∧ s6 = .int .u64 (c : Nat) ∧ c ≤ 1 ∧ s5 = .slice p o.length cp ∧ i ≤ N ∧ N ≤ i + gf ∧ o.length = i ∧ O64 wx w.heap.size (.slice p o.length cp) o ∧
    valB B64 o + c * B64 ^ i = valB B64 (l1.take i) + valB B64 (l2.take i) ∧ Bel w wx)
  case atStart => exact ⟨0, 0, [], none, 0, rfl, rfl, by omega, rfl, by omega, by omega, rfl, LOwn.nil _ _ _ _ _, by simp [valB], Bel.refl w⟩
  case round =>
    obtain ⟨i, c, o, p, cp, rfl, rfl, hc, rfl, hi, hig, ho, hown, hval, hb⟩ := hrel
    have HOWN := Lib.hid hown
    have HVAL := Lib.hid hval
    have HB := Lib.hid hb
    have HO := Lib.hid ho
    have hol : o.length < 1000000000 := by omega
    clear hown hval hb ho
    by_cases hlt : i < N
    · obtain ⟨gk', rfl⟩ : ∃ g, gk = g + 1 := ⟨gk - 1, by omega⟩
      have HL1 := Lib.hid (limb_any p1 c1 i l1 wr (H1.out.bel HB.out) (by omega))
      have HL2 := Lib.hid (limb_any p2 c2 i l2 wr (H2.out.bel HB.out) (by omega))
      have hX := limb_lt b64_pos HA1.out i
      have hY := limb_lt b64_pos HA2.out i
      have HST := Lib.hid (add_step HO.out HVAL.out)
      have hpl := add_plain hX hY hc
      obtain ⟨X, hX'⟩ : ∃ X, limbL l1 i = X := ⟨_, rfl⟩
      obtain ⟨Y, hY'⟩ : ∃ Y, limbL l2 i = Y := ⟨_, rfl⟩
      rw [hX'] at HL1 HST hpl
      rw [hY'] at HL2 HST hpl
      have hadd := fun wx => run_addc X Y c hc wx
      obtain ⟨S, hS⟩ : ∃ S, (X + Y + c) % B64 = S := ⟨_, rfl⟩
      obtain ⟨D, hD⟩ : ∃ D, (X + Y + c) / B64 = D := ⟨_, rfl⟩
      rw [hS, hD] at hadd HST hpl
      obtain ⟨hS6, hD1⟩ := hpl
      clear hX hY hX' hY' hS hD
      go_wp2_with (first
        | (go_at_call 206; first | ((with_reducible refine (HL1.out).mono ?_); rintro e w2 ⟨rfl, hw2⟩; obtain rfl := hw2.symm; clear HL1) | ((with_reducible refine (HL2.out).mono ?_); rintro e w2 ⟨rfl, hw2⟩; obtain rfl := hw2.symm; clear HL2))
        | (at_builtin; (refine wpList_limb64 (W := wr) (w0 := w) rfl (.tmp 29) (.tmp 31) rfl (.slice p o.length cp) o rfl HOWN.out HB.out _ rfl rfl S hS6 (by omega) ?_); intro g3 c3 w3 ho3 hb3; have HO3 := Lib.hid ho3; have HB3 := Lib.hid hb3; clear ho3 hb3))
      go_roundg gk'
      case measure => omega
      case rel =>
        have hlen : (o ++ [S]).length = o.length + 1 := by simp
        refine ⟨i + 1, D, o ++ [S], some ⟨g3, 0, none⟩, c3, by go_num, rfl, hD1, by rw [hlen], by omega, by omega, by rw [hlen, HO.out], by rw [hlen]; exact HO3.out, HST.out, HB3.out⟩
    · obtain rfl : i = N := by omega
      have hcB : c < B64 := by have := b64_two; omega
      have hval : valB B64 (o ++ [c]) = valB B64 l1 + valB B64 l2 := by
        have h := HVAL.out
        rw [List.take_of_length_le (by have := HN.out; omega), List.take_of_length_le (by have := HN.out; omega)] at h
        rw [val_snoc, HO.out, Nat.mul_comm, h]
      have HV2 := Lib.hid hval
      obtain ⟨l3, hl3⟩ : ∃ l3, o ++ [c] = l3 := ⟨_, rfl⟩
      have HL3 := Lib.hid hl3
      have hlen3 : l3.length = o.length + 1 := by rw [← hl3]; simp
      rw [hl3] at HV2
      have HLEN := Lib.hid hlen3
      clear hval hl3 hlen3
      go_wp2_with (first
        | (at_builtin; (refine wpList_limb64 (W := wr) (w0 := w) rfl (.tmp 35) (.tmp 37) rfl (.slice p o.length cp) o rfl HOWN.out HB.out _ rfl rfl c hcB (by omega) ?_); intro g3 c3 w3 ho3 hb3; rw [HL3.out] at ho3; rw [← HLEN.out] at ho3; have HO3 := Lib.hid ho3; have HB3 := Lib.hid hb3; clear ho3 hb3; rw [← HLEN.out])
        | (go_at_call 157; (with_reducible refine (trim_any _ _ l3 _ HO3.out.row (by have := HLEN.out; omega)).mono ?_); rintro e w4 ⟨rfl, hw4⟩; obtain rfl := hw4.symm))
      go_ret
      have hfin : limB B64 (valB B64 l1 + valB B64 l2) = trimL l3 := by rw [← HV2.out, lim_val b64_two HO3.out.2]
      rw [hfin]
      refine ⟨some ⟨g3, 0, none⟩, c3, rfl, ?_, HB3.out⟩
      have h := HO3.out.take (trim_len l3)
      rwa [← trim_prefix] at h
theorem run_add0 (x y : Nat) (w : World) : (callFunc 179 #[.int .u64 (x : Int), .int .u64 (y : Int), .int .u64 0]).run Tryz.prog w =
    .ok (.value (.tuple #[.int .u64 (((x + y) % B64 : Nat) : Int), .int .u64 (((x + y) / B64 : Nat) : Int)])) w := run_addc x y 0 (by omega) w
theorem run_sub0 (x y : Nat) (w : World) : (callFunc 207 #[.int .u64 (x : Int), .int .u64 (y : Int), .int .u64 0]).run Tryz.prog w =
    .ok (.value (.tuple #[.int .u64 (((x + B64 - y - 0) % B64 : Nat) : Int), .int .u64 ((if x < y + 0 then 1 else 0 : Nat) : Int)])) w := run_subc x y 0 (by omega) w
theorem mul64_any {x y : Nat} (hx : x < B64) (hy : y < B64) : ∃ hi lo : Nat, hi * B64 + lo = x * y ∧ hi < B64 ∧ lo < B64 ∧
    ∀ w, Calls Tryz.prog 178 #[.int .u64 (x : Int), .int .u64 (y : Int)] w fun e w' => e = .returned (.tuple #[.int .u64 (hi : Int), .int .u64 (lo : Int)]) ∧ w' = w := by
  refine ⟨x * y / B64, x * y % B64, ?_, ?_, Nat.mod_lt _ b64_pos, fun w => Tryz.bits_Mul64 x y hx hy w⟩
  · rw [Nat.mul_comm]; exact Nat.div_add_mod _ _
  · rw [Nat.div_lt_iff_lt_mul b64_pos]
    exact Nat.mul_lt_mul_of_lt_of_lt hx hy
theorem wrap64u {n : Nat} (h : n < B64) : IntKind.u64.wrap (n : Int) = (n : Int) := by
  unfold B64 at h
  rw [IntKind.wrap_u64]
  omega
theorem made_own (w : World) (N : Nat) (hN : N ≤ maxLen) : O64 (w.alloc (.cells (madeCells #[.int .u64 0] (N * 1)) 105)) w.heap.size (.slice (some ⟨w.heap.size, 0, none⟩) N N) (List.replicate N 0) := by
  refine ⟨⟨by simp, .inr ⟨w.heap.size, N, _, by simp, Nat.le_refl _, heap_alloc_new w _, by simp, hN, by simp [size_madeCells], ?_⟩⟩, fun x hx => by rw [List.mem_replicate] at hx; rw [hx.2]; exact b64_pos⟩
  rw [toList_madeCells_one]
  simp [lmV]
theorem run_made (N : Nat) (hN : N ≤ 1000000000000) (w : World) : (Instr.makeSlice 22 (.int .i64 (N : Int)) (.int .i64 (N : Int))).run Tryz.prog w =
    .ok (.slice (some ⟨w.heap.size, 0, none⟩) N N) (w.alloc (.cells (madeCells #[.int .u64 0] (N * 1)) 105)) := by
  obtain ⟨i0, hi, hz0, hz1, hz2⟩ := info_parts infoU64
  have h := run_make (P := Tryz.prog) w 22 105 i0 (.int .u64 0) Tryz.underlying22 hi hz0 .i64 .i64 N N (by omega) (by omega) (by rw [hz2]; omega) (by omega)
  rw [hz1] at h
  simp only [Int.toNat_natCast] at h
  exact h
theorem own_cell {w : World} {base g n c j x : Nat} {l : List Nat} (h : O64 w base (.slice (some ⟨g, 0, none⟩) n c) l) (hj : l[j]? = some x) : w.cell? ⟨g, j, none⟩ = some (.int .u64 (x : Int)) ∧ w.frozen? ⟨g, j, none⟩ = false := by
  obtain ⟨b, o, c', he, _, hq, _⟩ := h.row.at hj
  simp only [Value.slice.injEq, Option.some.injEq, Addr.mk.injEq, and_true] at he
  obtain ⟨⟨rfl, rfl⟩, rfl, rfl⟩ := he
  rw [Nat.zero_add] at hq
  exact ⟨hq, World.ownsRow.frozenAt h.1 j⟩
theorem own_store {w w0 : World} {base g n c : Nat} {l : List Nat} (h : O64 w base (.slice (some ⟨g, 0, none⟩) n c) l) (hb : Bel w0 w) (hbase : w0.heap.size ≤ base) (j v : Nat) (hv : v < B64) :
    O64 (w.setCell ⟨g, j, none⟩ (.int .u64 (v : Int))) base (.slice (some ⟨g, 0, none⟩) n c) (l.set j v) ∧ Bel w0 (w.setCell ⟨g, j, none⟩ (.int .u64 (v : Int))) := by
  have hn : n = l.length := by
    rcases h.1.2 with ⟨h1, _⟩ | ⟨g', cap', cur, h1, _⟩
    · cases h1
    · simp only [Value.slice.injEq] at h1; exact h1.2.1
  subst hn
  obtain ⟨h1, h2⟩ := World.ownsRow.stored h.1 j (.int .u64 (v : Int))
  refine ⟨⟨?_, all_set h.2 hv⟩, hb.set (Nat.le_trans hbase (h.1.lt g rfl).1) _⟩
  rw [List.length_set, List.map_set]
  exact h1
theorem limb_at {l : List Nat} {j x : Nat} (h : l[j]? = some x) : limbL l j = x := by simp [limbL, h]
theorem limb_some {l : List Nat} {j : Nat} (h : j < l.length) : l[j]? = some (limbL l j) := by
  unfold limbL
  rw [List.getElem?_eq_getElem h]
  rfl
theorem limb_set {l : List Nat} {i j v : Nat} (h : i ≠ j) : limbL (l.set i v) j = limbL l j := by
  unfold limbL
  rw [List.getElem?_set_ne h]
theorem limb_zeros (N j : Nat) : limbL (List.replicate N 0) j = 0 := by
  unfold limbL
  rw [List.getElem?_replicate]
  split <;> rfl
set_option maxHeartbeats 4000000 in
set_option maxRecDepth 100000 in
theorem natMul_any (p1 p2 : Option Addr) (c1 c2 : Nat) (l1 l2 : List Nat) (w : World) (h1 : R64 w (.slice p1 l1.length c1) l1) (h2 : R64 w (.slice p2 l2.length c2) l2) (hl1 : l1.length < 1000000000) (hl2 : l2.length < 1000000000) :
    Calls Tryz.prog 141 #[.slice p1 l1.length c1, .slice p2 l2.length c2] w fun e w' => ∃ p c, e = .returned (.slice p (limB B64 (valB B64 l1 * valB B64 l2)).length c) ∧
      O64 w' w.heap.size (.slice p (limB B64 (valB B64 l1 * valB B64 l2)).length c) (limB B64 (valB B64 l1 * valB B64 l2)) ∧ Bel w w' := by
  have H1 := Lib.hid h1
  have H2 := Lib.hid h2
  have HA1 := Lib.hid h1.all
  have HA2 := Lib.hid h2.all
  obtain ⟨n, hn⟩ : ∃ n, l1.length = n := ⟨_, rfl⟩
  obtain ⟨m, hm⟩ : ∃ m, l2.length = m := ⟨_, rfl⟩
  have HN := Lib.hid hn
  have HM := Lib.hid hm
  rw [hn] at hl1 ⊢
  rw [hm] at hl2 ⊢
  have hmk := fun wx => run_made (n + m) (by omega) wx
  rw [show ((n + m : Nat) : Int) = (n : Int) + (m : Int) by omega] at hmk
  obtain ⟨Z, hZ⟩ : ∃ Z, madeCells #[.int .u64 0] ((n + m) * 1) = Z := ⟨_, rfl⟩
  have HO0 := Lib.hid (made_own w (n + m) (by unfold maxLen; omega))
  rw [hZ] at hmk HO0
  obtain ⟨G, hG⟩ : ∃ G, w.heap.size = G := ⟨_, rfl⟩
  rw [hG] at HO0 ⊢
  have HG := Lib.hid hG
  clear h1 h2 hn hm hZ
  go_enter Tryz.func141, Tryz.ntmps141
  go_wp2
  go_loopg [22] n (fun gf s22 wx => ∃ (i : Nat) (o : List Nat), s22 = .int .i64 i ∧ i ≤ n ∧ n ≤ i + gf ∧ o.length = n + m ∧ O64 wx G (.slice (some ⟨G, 0, none⟩) (n + m) (n + m)) o ∧
    (∀ j, i + m ≤ j → limbL o j = 0) ∧ valB B64 o = valB B64 (l1.take i) * valB B64 l2 ∧ Bel w wx)
  case atStart => exact ⟨0, List.replicate (n + m) 0, rfl, by omega, by omega, by simp, HO0.out, fun j _ => limb_zeros _ _, by rw [val_zeros]; simp [valB], (Bel.refl w).alloc _⟩
  case round =>
    obtain ⟨i, o, rfl, hi, hig, ho, hown, hz, hval, hb⟩ := hrel
    have HOWN := Lib.hid hown
    have HVAL := Lib.hid hval
    have HB := Lib.hid hb
    have HO := Lib.hid ho
    have HZ := Lib.hid hz
    clear hown hval hb ho hz
    by_cases hlt : i < n
    · obtain ⟨gk', rfl⟩ : ∃ g, gk = g + 1 := ⟨gk - 1, by omega⟩
      obtain ⟨X, hX⟩ : ∃ X, l1[i]? = some X := ⟨_, List.getElem?_eq_getElem (by rw [HN.out]; exact hlt)⟩
      have h1 := H1.out.bel HB.out
      obtain ⟨b1, o1, c1', he, _, q1, hXB⟩ := h1.at hX
      simp only [Value.slice.injEq] at he
      obtain ⟨rfl, _, rfl⟩ := he
      have HX := Lib.hid (limb_at hX)
      clear hX h1
      go_wp2
      go_loopg [8, 29] m (fun gf s8 s29 wx => ∃ (k c : Nat) (o : List Nat), s29 = .int .i64 k ∧ s8 = .int .u64 (c : Nat) ∧ c < B64 ∧ k ≤ m ∧ m ≤ k + gf ∧ o.length = n + m ∧ O64 wx G (.slice (some ⟨G, 0, none⟩) (n + m) (n + m)) o ∧
        (∀ j, i + m ≤ j → limbL o j = 0) ∧ valB B64 o + B64 ^ (i + k) * c = valB B64 (l1.take i) * valB B64 l2 + X * B64 ^ i * valB B64 (l2.take k) ∧ Bel w wx)
      case atStart => exact ⟨0, 0, o, rfl, rfl, b64_pos, by omega, by omega, HO.out, HOWN.out, HZ.out, by rw [HVAL.out]; simp [valB], HB.out⟩
      case round =>
        obtain ⟨k, c, o, rfl, rfl, hc, hk, hkg, ho, hown, hz, hval, hb⟩ := hrel
        have HOWN := Lib.hid hown
        have HVAL := Lib.hid hval
        have HB := Lib.hid hb
        have HO := Lib.hid ho
        have HZ := Lib.hid hz
        clear hown hval hb ho hz
        by_cases hkm : k < m
        · obtain ⟨gm, rfl⟩ : ∃ g, gk = g + 1 := ⟨gk - 1, by omega⟩
          obtain ⟨Y, hY⟩ : ∃ Y, l2[k]? = some Y := ⟨_, List.getElem?_eq_getElem (by rw [HM.out]; exact hkm)⟩
          have h2 := H2.out.bel HB.out
          obtain ⟨b2, o2, c2', he, _, q2, hYB⟩ := h2.at hY
          simp only [Value.slice.injEq] at he
          obtain ⟨rfl, _, rfl⟩ := he
          have HY := Lib.hid (limb_at hY)
          have hT := limb_some (show i + k < o.length by rw [HO.out]; omega)
          obtain ⟨T, hT'⟩ : ∃ T, limbL o (i + k) = T := ⟨_, rfl⟩
          rw [hT'] at hT
          have HT := Lib.hid hT'
          have hTB := HOWN.out.2 T (List.mem_of_getElem? hT)
          obtain ⟨q3, q4⟩ := own_cell HOWN.out hT
          obtain ⟨hi, lo, hml, hhi, hlo, hmul⟩ := mul64_any hXB hYB
          have HMU := Lib.hid hmul
          have hlim := mul_limb (o := T) (c := c) b64_pos hml
          have hbd := mul_bound hXB hYB hc hTB
          have ha1 := fun wx => run_add0 lo c wx
          obtain ⟨L1, hL1⟩ : ∃ L1, (lo + c) % B64 = L1 := ⟨_, rfl⟩
          obtain ⟨D1, hD1⟩ : ∃ D1, (lo + c) / B64 = D1 := ⟨_, rfl⟩
          rw [hL1, hD1] at ha1 hlim
          have ha2 := fun wx => run_add0 T L1 wx
          obtain ⟨O1, hO1⟩ : ∃ O1, (T + L1) % B64 = O1 := ⟨_, rfl⟩
          obtain ⟨D2, hD2⟩ : ∃ D2, (T + L1) / B64 = D2 := ⟨_, rfl⟩
          rw [hO1, hD2] at ha2 hlim
          rw [← hlim.2] at hbd
          have hO1B : O1 < B64 := by rw [← hO1]; exact Nat.mod_lt _ b64_pos
          have hw1 : IntKind.u64.wrap ((hi : Int) + (D1 : Int)) = (hi : Int) + (D1 : Int) := wrap64u (n := hi + D1) (by omega)
          have hw2 : IntKind.u64.wrap ((hi : Int) + (D1 : Int) + (D2 : Int)) = (hi : Int) + (D1 : Int) + (D2 : Int) := wrap64u (n := hi + D1 + D2) (by omega)
          have HEQ : Hid ((hi + D1 + D2) * B64 + O1 = X * Y + c + T) := by
            unfold Hid
            rw [hlim.1, hlim.2, Nat.mul_comm]
            exact Nat.div_add_mod _ _
          have HBD := Lib.hid hbd
          have HS := Lib.hid (own_store HOWN.out HB.out (Nat.le_of_eq HG.out) (i + k) O1 hO1B)
          have e1 : ((i : Int) + (k : Int)).toNat = i + k := by omega
          clear hY h2 hT hT' hmul hml hlim hL1 hD1 hO1 hD2 hbd
          go_wp2_with (first
            | (go_at_call 178; (with_reducible refine (HMU.out _).mono ?_); rintro e w3 ⟨rfl, hw3⟩; obtain rfl := hw3.symm))
          go_roundg gm
          case measure => omega
          case rel =>
            refine ⟨k + 1, hi + D1 + D2, o.set (i + k) O1, by go_num, by go_num, HBD.out, by omega, by omega, by rw [List.length_set]; exact HO.out, HS.out.1, fun j hj => ?_, ?_, HS.out.2⟩
            · rw [limb_set (by omega)]; exact HZ.out j hj
            · exact mul_step (by rw [HO.out]; omega) HY.out (by rw [HT.out]; exact HEQ.out) HVAL.out
        · obtain rfl : k = m := by omega
          have hT := limb_some (show i + k < o.length by rw [HO.out]; omega)
          rw [HZ.out _ (Nat.le_refl _)] at hT
          obtain ⟨q3, q4⟩ := own_cell HOWN.out hT
          have HS := Lib.hid (own_store HOWN.out HB.out (Nat.le_of_eq HG.out) (i + k) c hc)
          have e1 : ((i : Int) + (k : Int)).toNat = i + k := by omega
          have HROW := Lib.hid (mul_row (by rw [HO.out]; omega) HX.out (HZ.out _ (Nat.le_refl _)) HM.out HVAL.out)
          clear hT
          go_wp2
          go_roundg gk'
          case measure => omega
          case rel =>
            refine ⟨i + 1, o.set (i + k) c, by go_num, by omega, by omega, by rw [List.length_set]; exact HO.out, HS.out.1, fun j hj => ?_, HROW.out, HS.out.2⟩
            rw [limb_set (by omega)]; exact HZ.out j (by omega)
    · obtain rfl : i = n := by omega
      have hval : valB B64 o = valB B64 l1 * valB B64 l2 := by
        rw [HVAL.out, List.take_of_length_le (by rw [HN.out]; omega)]
      have hfin : limB B64 (valB B64 l1 * valB B64 l2) = trimL o := by rw [← hval, lim_val b64_two HOWN.out.2]
      have HFIN := Lib.hid hfin
      have hrow := HOWN.out.row
      have HTR := Lib.hid (fun hh => trim_any (some ⟨G, 0, none⟩) (i + m) o wr hh (by rw [HO.out]; omega))
      rw [HO.out] at HTR
      replace HTR := Lib.hid (HTR.out hrow)
      clear hval hfin hrow
      go_wp2_with (first
        | (go_at_call 157; (with_reducible refine (HTR.out).mono ?_); rintro e w4 ⟨rfl, hw4⟩; obtain rfl := hw4.symm))
      go_ret
      rw [HFIN.out]
      refine ⟨some ⟨G, 0, none⟩, i + m, rfl, ?_, HB.out⟩
      have h := HOWN.out.take (trim_len o)
      rwa [← trim_prefix] at h
end Go.Proofs.YtafmfnpjhhaikaaGreatDoor
namespace Go.Proofs.YtafmfnpjhhaikaaGreatDoor
open Go.RowKit Go.Shelf
attribute [local go_sem] Oper.semAt_some
/-- The places of so many elements, the last one first. -/
def downs : Nat → List Nat
  | 0 => []
  | n + 1 => n :: downs n
theorem downs_len : ∀ n, (downs n).length = n
  | 0 => rfl
  | n + 1 => by rw [downs, List.length_cons, downs_len n]
theorem downs_at : ∀ (n k : Nat), k < n → (downs n)[k]? = some (n - 1 - k)
  | n + 1, 0, _ => by rw [downs]; simp
  | n + 1, k + 1, h => by rw [downs, List.getElem?_cons_succ, downs_at n k (by omega)]; congr 1; omega
theorem downs_take {n k : Nat} (h : k < n) : (downs n).take (k + 1) = (downs n).take k ++ [n - 1 - k] := by
  obtain ⟨h1, h2⟩ := List.getElem?_eq_some_iff.1 (downs_at n k h)
  rw [List.take_succ_eq_append_getElem h1, h2]
def IsI (k : IntKind) (o : Option Value) : Prop := ∃ x : Int, o = some (.int k x)
/-- What a round keeps: the iterator's box, and that the elements can be read. -/
def KpB (k : IntKind) (Bs b off len : Nat) (A B : World) : Prop := B.cell? ⟨Bs, 0, none⟩ = A.cell? ⟨Bs, 0, none⟩ ∧ ∀ j, j < len → IsI k (A.cell? ⟨b, off + j, none⟩) → IsI k (B.cell? ⟨b, off + j, none⟩)
theorem KpB.refl (k : IntKind) (Bs b off len : Nat) (A : World) : KpB k Bs b off len A A := ⟨rfl, fun _ _ h => h⟩
theorem KpB.trans {k : IntKind} {Bs b off len : Nat} {A B C : World} (h : KpB k Bs b off len A B) (h' : KpB k Bs b off len B C) : KpB k Bs b off len A C :=
  ⟨h'.1.trans h.1, fun j hj hA => h'.2 j hj (h.2 j hj hA)⟩
theorem putObj_cell {W : World} {l : Nat} {o' : Obj} {b j : Nat} (hne : b ≠ l) : (W.putObj l o').cell? ⟨b, j, none⟩ = W.cell? ⟨b, j, none⟩ := by
  unfold World.cell? World.putObj
  simp only [Array.getElem?_setIfInBounds_ne (Ne.symm hne)]
theorem KpB.put {k : IntKind} {Bs b off len n0 : Nat} (h1 : Bs < n0) (h2 : b < n0) (W : World) (l : Nat) (o' : Obj) (hl : n0 ≤ l) : KpB k Bs b off len W (W.putObj l o') := by
  refine ⟨putObj_cell (by omega), fun j hj h => ?_⟩
  rw [putObj_cell (by omega)]
  exact h
/-- A place of so many elements, and what is read there. -/
abbrev Pl (len : Nat) := { x : Nat × Int // x.1 < len }
def plN {len : Nat} (x : Pl len) : Nat := x.1.1
set_option maxRecDepth 100000 in
set_option maxHeartbeats 2000000 in
theorem back1_in (n : Nat) (hn : 1 ≤ n) (l Bs b off len cap : Nat) (hlen : len < 1000000000000) (J Jx : List (Pl len) → World → Prop)
    (hY : ∀ pre x W, J pre W → pre.length < len → YieldAt Fence.wide (n - 1) Tryz.prog l #[.int .i64 (plN x : Int), .int .u64 x.1.2] W fun e W' =>
      (e = .returned (.bool true) ∧ J (pre ++ [x]) W' ∧ KpB .u64 Bs b off len W W') ∨ (e = .returned (.bool false) ∧ Jx (pre ++ [x]) W'))
    (W : World) (hBs : W.cell? ⟨Bs, 0, none⟩ = some (.slice (some ⟨b, off, none⟩) len cap)) (hc : ∀ j, j < len → IsI .u64 (W.cell? ⟨b, off + j, none⟩)) (h0 : J [] W) :
    CallsIn Fence.wide n Tryz.prog 188 #[.func (.yield l) #[] #[], .pointer (some ⟨Bs, 0, none⟩)] W fun e W' => (∃ v, e = .returned v) ∧
      ((∃ ys, ys.map plN = downs len ∧ J ys W') ∨ (∃ pre, (∃ k, k ≤ len ∧ pre.map plN = (downs len).take k) ∧ Jx pre W')) := by
  refine callsIn_of_wp Tryz.func188 rfl trivial ?_ rfl
  simp only [Tryz.ntmps188, List.size_toArray, List.length_cons, List.length_nil, Nat.reduceAdd, Nat.reduceSub, Array.replicate_succ, Array.replicate_zero, List.push_toArray, List.append_toArray, List.nil_append, List.cons_append]
  gi_wp2
  gi_loopw [3] (fun i wr => ∃ (k : Nat) (pre : List (Pl len)), k ≤ len ∧ i = .int .i64 ((len : Int) - 1 - (k : Int)) ∧ pre.map plN = (downs len).take k ∧ J pre wr ∧ KpB .u64 Bs b off len W wr)
    (fun i _ => (intOf i + 1).toNat)
  case atStart => exact ⟨0, [], Nat.zero_le _, by simp, by simp, h0, KpB.refl _ _ _ _ _ _⟩
  case round =>
    obtain ⟨k, pre, hk, rfl, hpre, hJs, hkp⟩ := hrel
    by_cases hlt : k < len
    · obtain ⟨x, hx⟩ := hkp.2 (len - 1 - k) (by omega) (hc (len - 1 - k) (by omega))
      have hbx : wr.cell? ⟨Bs, 0, none⟩ = some (.slice (some ⟨b, off, none⟩) len cap) := hkp.1.trans hBs
      obtain ⟨m, hm⟩ : ∃ m, len - 1 - k = m := ⟨_, rfl⟩
      have hmi : (len : Int) - 1 - (k : Int) = (m : Int) := by omega
      have hml : m < len := by omega
      obtain ⟨fn, tmps, assign, body, hy, hR⟩ := hY pre ⟨(m, x), hml⟩ wr hJs (by have := congrArg List.length hpre; simp [downs_len] at this; omega)
      unfold plN at hy
      dsimp only at hy
      rw [hm] at hx
      rw [hmi]
      gi_wp2
      refine hR.mono ?_
      rintro e W3 (⟨rfl, hJ3, hk3⟩ | ⟨rfl, hJx3⟩)
      · gi_wp2
        go_roundw
        case rel => exact ⟨k + 1, pre ++ [⟨(m, x), hml⟩], by omega, by congr 1; omega, by rw [List.map_append, hpre, downs_take hlt, hm]; rfl, hJ3, hkp.trans hk3⟩
        case measure => simp [intOf]
      · gi_wp2
        refine bodyPost_ret (results_none rfl _ _ _) rfl ?_
        exact ⟨⟨_, rfl⟩, .inr ⟨pre ++ [⟨(m, x), hml⟩], ⟨k + 1, by omega, by rw [List.map_append, hpre, downs_take hlt, hm]; rfl⟩, hJx3⟩⟩
    · obtain rfl : k = len := by omega
      have hm1 : (k : Int) - 1 - (k : Int) = -1 := by omega
      rw [hm1]
      gi_wp2
      go_end0
      exact ⟨⟨_, rfl⟩, .inl ⟨pre, by rw [hpre, List.take_of_length_le (by rw [downs_len]; exact Nat.le_refl _)], hJs⟩⟩
set_option maxRecDepth 100000 in
set_option maxHeartbeats 1000000 in
theorem back1_none {α : Type} (n : Nat) (l Bs cap : Nat) (p : Option Addr) (J : List α → World → Prop) (W : World) (hBs : W.cell? ⟨Bs, 0, none⟩ = some (.slice p 0 cap)) (h0 : J [] W) :
    CallsIn Fence.wide n Tryz.prog 188 #[.func (.yield l) #[] #[], .pointer (some ⟨Bs, 0, none⟩)] W fun e W' => (∃ v, e = .returned v) ∧ J [] W' := by
  refine callsIn_of_wp Tryz.func188 rfl trivial ?_ rfl
  simp only [Tryz.ntmps188, List.size_toArray, List.length_cons, List.length_nil, Nat.reduceAdd, Nat.reduceSub, Array.replicate_succ, Array.replicate_zero, List.push_toArray, List.append_toArray, List.nil_append, List.cons_append]
  gi_wp2
  gi_loopw [3] (fun i wr => i = .int .i64 (-1) ∧ J [] wr) (fun _ _ => 0)
  case atStart => exact ⟨rfl, h0⟩
  case round =>
    obtain ⟨rfl, hJs⟩ := hrel
    gi_wp2
    go_end0
    exact ⟨⟨_, rfl⟩, hJs⟩
theorem backward_any (p : Option Addr) (len cap : Nat) (w : World) : Calls Tryz.prog 159 #[.slice p len cap] w fun e w' =>
    e = .returned (.func (.func 188) #[] #[.pointer (some ⟨w.heap.size, 0, none⟩)]) ∧ w' = w.alloc (.cells #[.slice p len cap] 22) := by
  have hmf : ∀ (fn : Fn) (first cap : Array Value) (w : World), (Instr.makeFunc fn first cap).run Tryz.prog w = .ok (.func fn first cap) w := fun _ _ _ _ => rfl
  go_enter Tryz.func159, Tryz.ntmps159
  go_wp2
  go_ret
  exact ⟨rfl, rfl⟩
theorem back_stops (n : Nat) (hn : 1 ≤ n) (Bs : Nat) (p : Option Addr) (b off len cap : Nat) (hlen : len < 1000000000000) (hp : 0 < len → p = some ⟨b, off, none⟩) (w : World) (hB : Bs < w.heap.size) (hb : 0 < len → b < w.heap.size)
    (hBs : w.cell? ⟨Bs, 0, none⟩ = some (.slice p len cap)) (hc : ∀ j, j < len → IsI .u64 (w.cell? ⟨b, off + j, none⟩)) :
    SeqStopsK Fence.wide n Tryz.prog 188 #[.pointer (some ⟨Bs, 0, none⟩)] (fun x : Pl len => #[Value.int .i64 (plN x : Int), Value.int .u64 x.1.2]) (KpB .u64 Bs b off len)
      (fun ys => ys.map plN = downs len) (fun pre => ∃ k, k ≤ len ∧ pre.map plN = (downs len).take k) len w := fun l J Jx W hW _ _ hY h0 => by
  have hBs' : W.cell? ⟨Bs, 0, none⟩ = some (.slice p len cap) := (Below.cell hW (p := ⟨Bs, 0, none⟩) hB).trans hBs
  by_cases h : 0 < len
  · rw [hp h] at hBs'
    refine back1_in n hn l Bs b off len cap hlen J Jx hY W hBs' (fun j hj => ?_) h0
    rw [Below.cell hW (p := ⟨b, off + j, none⟩) (hb h)]
    exact hc j hj
  · obtain rfl : len = 0 := by omega
    exact (back1_none n l Bs cap p J W hBs' h0).mono fun e W' ⟨he, hj⟩ => ⟨he, .inl ⟨[], rfl, hj⟩⟩
end Go.Proofs.YtafmfnpjhhaikaaGreatDoor
/-
  A region that draws its order and only reads, in a round of a loop over a function: one walk serves every order.
  (In a round an operation that is no defer statement is carried out as elsewhere.)
-/
namespace Go.Proofs.YtafmfnpjhhaikaaGreatDoor
open Go
variable {F : Fence} {n : Nat} {P : Program} {ops : Array Oper} {md : Region.Mode} {C : World → Prop}
def noDefer (l : List Oper) : Bool := l.all fun o => match o.op with | .defer _ => false | _ => true
theorem noDefer_at {l : List Oper} (h : noDefer l = true) {o : Oper} (ho : o ∈ l) : ∀ c, o.op ≠ .defer c := by
  intro c hc
  have h1 := List.all_eq_true.1 h o ho
  rw [hc] at h1
  exact absurd h1 (by simp)
theorem quietOp_wp {o : Oper} {a : Act} {K : Act → Prop} {K' : Act → World → Prop} {Q' : Exit → Act → World → Prop} {w : World} (hd : ∀ c, o.op ≠ .defer c) (hw : C w) (h : ∀ a w', C w' → K a → K' a w')
    (ha : o.askedIn F P a C) (hh : o.quietIn F n P a C K) : o.wpIn F n P a w K' Q' := by
  obtain ⟨v, hv, hK⟩ := hh
  have hv := hv w hw
  refine ⟨ha w hw, ?_⟩
  rw [Oper.semAt_eq _ _ _ hd]
  unfold Oper.quietAtIn at hv
  cases hr : (execOp a.eval o).run P w with
  | halt x w' => rw [hr] at hv; exact hv.elim
  | ok x w' =>
    rw [hr] at hv
    cases x with
    | value u => obtain ⟨rfl, rfl⟩ := hv; exact h _ _ hw hK
    | skip => obtain ⟨rfl, rfl⟩ := hv; exact h _ _ hw hK
    | enter f args =>
      obtain ⟨rfl, hd, hc⟩ := hv
      exact ⟨hd, hc.mono fun e w'' ⟨he, hw''⟩ => by subst he; exact h _ _ hw'' hK⟩
    | _ => exact hv.elim
theorem quietAny_wp {Q : Act → Prop} {Q' : Exit → Act → World → Prop} (hnd : ∀ (i : Nat) (o : Oper), ops[i]? = some o → ∀ c, o.op ≠ .defer c) (hQ : ∀ a w, C w → Q a → Q' .normal a w) : ∀ (fuel : Nat) (listed : Array Bool) (a : Act) (w : World), C w →
    wpAnyQIn F n P md ops C Q fuel listed a → wpAnyIn F n P md ops Q' fuel listed a w
  | 0, _, _, _, hw, h => ⟨h.1, hQ _ _ hw h.2⟩
  | fuel + 1, _, a, w, hw, h => ⟨fun h0 => hQ _ _ hw (h.1 h0), fun i hi => by
      have hh := h.2 i hi
      unfold qOpIn at hh
      unfold wpOpIn
      cases ho : ops[i]? with
      | none => simp only [ho] at hh ⊢; exact quietAny_wp hnd hQ fuel _ _ _ hw hh
      | some o =>
        simp only [ho] at hh ⊢
        obtain ⟨ha, hh⟩ := hh
        by_cases hwn : Region.wanted o (yielded ops a.tmps) = true
        · rw [if_pos hwn] at hh ⊢
          exact quietOp_wp (hnd i o ho) hw (fun a' w' hw' hk => quietAny_wp hnd hQ fuel _ a' w' hw' hk) ha hh
        · rw [if_neg hwn] at hh ⊢
          exact ⟨ha w hw, quietAny_wp hnd hQ fuel _ _ _ hw hh⟩⟩
theorem region_quiet {id : Nat} {Q : Exit → Act → World → Prop} {a : Act} {w : World} {l : List Oper} (hnd : noDefer l = true) (hm : P.follows .mixedOrders = true) (hB : Region.lexB .any l.toArray = true)
    (h : wpQuietIn F n P l.toArray (fun w' => ∃ n, w' = w.drewN n) (fun a' => ∀ w', (∃ n, w' = w.drewN n) → Q .normal a' w') l a) : (Code.region id l.toArray true).wpIn F n P Q a w := by
  simp only [Region.lexB, Bool.and_eq_true] at hB
  refine wpIn_region_any hm (quietAny_wp (C := fun w' => ∃ n, w' = w.drewN n) (Q := fun a' => ∀ w', (∃ n, w' = w.drewN n) → Q .normal a' w') (fun i o ho => noDefer_at hnd (by simpa using List.mem_of_getElem? (by simpa using ho))) (fun _ w' hw' h => h w' hw') _ _ _ _ ⟨1, rfl⟩ ?_)
  have := wpAnyQIn_lex (F := F) (n := n) (C := fun w' => ∃ n, w' = w.drewN n) (md := .any) hB.1 l 0 (Array.replicate l.toArray.size false) a (by simp) (by simpa using hB.2) h
  simpa using this
end Go.Proofs.YtafmfnpjhhaikaaGreatDoor
