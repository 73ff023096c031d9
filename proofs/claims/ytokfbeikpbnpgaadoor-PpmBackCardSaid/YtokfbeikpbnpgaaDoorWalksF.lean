/-
  The walk of wakes: true, wherever the table of powers of ten reads as it does.
-/
import Derived.Test.YtokfbeikpbnpgaaDoorWalksE
import Derived.Lib.SlBytesConst
namespace Go.Proofs.YtokfbeikpbnpgaaDoor
open Go.RowKit

theorem rb_lit (w : World) (cs : Array Value) (xs : List Int) (n : Nat) (hn : xs.length = n) (hcs : cs.toList = xs.map (Value.int .u8)) (hr : ∀ x ∈ xs, 0 ≤ x ∧ x < 256) (fr : Nat × Nat) : RB (w.alloc (.cells cs 5 fr)) (some ⟨w.heap.size, 0, none⟩) n xs := by
  subst hn
  refine RB.cells rfl (Nat.le_refl _) hr fun i hi => ?_
  rw [Nat.zero_add, World.cell?_alloc_mark, ← Array.getElem?_toList, hcs]
  simp [List.getD, hi]
theorem wake_head : headL 2 1 = [80, 54, 10, 50, 32, 49, 10, 50, 53, 53, 10] := by
  have e2 : Lib.itoa 2 = [50] := by rw [itoa_side (by decide), show Int.toNat 2 = 2 from rfl, Lib.decDigits, dif_pos (by decide)]; rfl
  have e1 : Lib.itoa 1 = [49] := by rw [itoa_side (by decide), show Int.toNat 1 = 1 from rfl, Lib.decDigits, dif_pos (by decide)]; rfl
  simp [headL, e1, e2]
def wakeF : List Int := nums (headL 2 1) ++ [1, 2, 3, 4, 5, 6]
theorem wakeF_eq : wakeF = [80, 54, 10, 50, 32, 49, 10, 50, 53, 53, 10, 1, 2, 3, 4, 5, 6] := by
  unfold wakeF; rw [wake_head]; rfl
theorem wake_enc : encS 2 1 [1, 2, 3, 4, 5, 6] = (wakeF, 0) := by
  unfold encS; rw [if_pos ⟨by decide, by decide⟩, if_pos (by decide)]; rfl
theorem wake_dec : DecS wakeF 2 1 [1, 2, 3, 4, 5, 6] 0 := .inl ⟨rfl, by decide, by decide, rfl, by decide⟩
def wakeG : List Int := [80, 54, 10, 50, 32, 48, 49, 10, 50, 53, 53, 10, 49, 50, 51, 52, 53, 54]
theorem wake_bad (a b : Int) (zs : List Int) : ¬ Img wakeG a b zs := by
  intro h
  have e := h.bytes
  have eG : Lib.bytesOf wakeG = [80, 54, 10] ++ ([50] ++ 32 :: ([48, 49] ++ 10 :: [50, 53, 53, 10, 49, 50, 51, 52, 53, 54])) := by decide
  rw [eG] at e
  simp only [headL, List.append_assoc, List.cons_append, List.nil_append, List.cons.injEq, true_and] at e
  obtain ⟨_, _, e2⟩ := span_one [50] (Lib.itoa a) 32 32 _ _ (by decide) (side_dig h.1) nd32 nd32 e
  obtain ⟨e3, _, _⟩ := span_one [48, 49] (Lib.itoa b) 10 10 _ _ (by decide) (side_dig h.2.1) nd10 nd10 e2
  have hh := dec_head b.toNat (by have := h.2.1.1; omega)
  rw [← itoa_side h.2.1, ← e3] at hh
  exact hh rfl
theorem wake_dec2 : DecS wakeG 0 0 [] 11 := .inr ⟨rfl, rfl, rfl, rfl, wake_bad⟩

def TruePost (w : World) (e : Ending) (w' : World) : Prop := e = .returned (.bool true) ∧ Below w.heap.size w w'
theorem strOf_eq (xs : List Int) (l : List UInt8) (h : Lib.bytesOf xs = l) : (strOfNums xs).toList = l := by rw [strOfNums_list, h]

theorem wake_c1 (p : Option Addr) (w : World) (hR : RB w p 6 [1, 2, 3, 4, 5, 6]) (ht : Tab w) :
    Calls Tryd.prog 7 #[.int .i64 2, .int .i64 1, .slice p 6 6] w fun e w' => ∃ b o c, e = .returned (.tuple #[.slice (some ⟨b, o, none⟩) 17 c, .int .i64 0]) ∧ RB w' (some ⟨b, o, none⟩) c wakeF ∧ Below w.heap.size w w' := by
  have h := enc_yes 2 1 p 6 [1, 2, 3, 4, 5, 6] w (by decide) (by decide) hR ht (by decide)
  rw [wake_enc] at h
  refine Calls.mono h ?_
  rintro e w' ⟨p', c', rfl, hR', hb⟩
  have hl : wakeF.length = 17 := by rw [wakeF_eq]; rfl
  obtain ⟨b, o, rfl, _⟩ := hR'.2.2.1 (by rw [hl]; decide)
  exact ⟨b, o, c', by rw [hl], hR', hb⟩
theorem wake_c2 (p : Option Addr) (c : Nat) (w : World) (hR : RB w p c wakeF) (ht : Tab w) :
    Calls Tryd.prog 9 #[.slice p 17 c] w fun e w' => ∃ b o c, e = .returned (.tuple #[.int .i64 2, .int .i64 1, .slice (some ⟨b, o, none⟩) 6 c, .int .i64 0]) ∧ w'.cell? ⟨b, o + 5, none⟩ = some (.int .u8 6) ∧ Below w.heap.size w w' := by
  have hl : wakeF.length = 17 := by rw [wakeF_eq]; rfl
  have h := pdec_any p c wakeF w hR (by rw [hl]; decide) ht
  rw [hl] at h
  refine h.mono ?_
  rintro e w' ⟨a, b, p', c', zs, q, rfl, hD, hR', hb⟩
  obtain ⟨rfl, rfl, rfl, rfl⟩ := hD.one wake_dec
  obtain ⟨bb, oo, rfl, hc⟩ := hR'.2.2.1 (by decide)
  exact ⟨bb, oo, c', rfl, hc 5 (by decide), hb⟩
theorem wake_c3 (p : Option Addr) (c : Nat) (w : World) (hR : RB w p c wakeG) (ht : Tab w) :
    Calls Tryd.prog 9 #[.slice p 18 c] w fun e w' => ∃ p c, e = .returned (.tuple #[.int .i64 0, .int .i64 0, .slice p 0 c, .int .i64 11]) ∧ Below w.heap.size w w' := by
  refine (pdec_any p c wakeG w hR (by decide) ht).mono ?_
  rintro e w' ⟨a, b, p', c', zs, q, rfl, hD, hR', hb⟩
  obtain ⟨rfl, rfl, rfl, rfl⟩ := hD.one wake_dec2
  exact ⟨p', c', rfl, hb⟩

set_option maxHeartbeats 1000000 in
theorem wakes_any (w : World) (ht : Tab w) : Calls Tryd.prog 6 #[] w (TruePost w) := by
  have HT := Lib.hid ht
  clear ht
  have kcc := fun (w : World) (C : Array Value) (n c : Nat) => Lib.run_convert_bytes_const (P := Tryd.prog) w 23 5 C n c Tryd.underlying23 Tryd.underlying5
  go_enter Tryd.func6, Tryd.ntmps6
  go_wp2_with fail
  have hb0 : Below w.heap.size w (w.alloc (.cells #[Value.int IntKind.u8 1, Value.int IntKind.u8 2, Value.int IntKind.u8 3, Value.int IntKind.u8 4, Value.int IntKind.u8 5, Value.int IntKind.u8 6] 5)) := (Below.refl _ _).alloc (Nat.le_refl _) _
  refine (wake_c1 (some ⟨w.heap.size, 0, none⟩) _ (rb_lit w _ [1, 2, 3, 4, 5, 6] 6 rfl rfl (by decide) _) (HT.out.on hb0)).mono ?_
  rintro e w1 ⟨b1, o1, c1, rfl, hR1, hb1⟩
  have HB1 := Lib.hid (hb0.trans (hb1.mono hb0.size))
  have HR1 := Lib.hid hR1
  clear hb0 hb1 hR1
  go_wp2_with fail
  refine (wake_c2 _ c1 w1 HR1.out (HT.out.on HB1.out)).mono ?_
  rintro e w2 ⟨b2, o2, c2, rfl, hcell, hb2⟩
  have HB2 := Lib.hid (HB1.out.trans (hb2.mono HB1.out.size))
  have HR1' := Lib.hid (HR1.out.below hb2)
  have HC := Lib.hid hcell
  clear hb2 hcell
  go_wp2_with fail
  have hb3 : ∀ o, Below w2.heap.size w2 (w2.alloc o) := fun o => (Below.refl _ _).alloc (Nat.le_refl _) _
  have HB3 : ∀ o, Hid (Below w.heap.size w (w2.alloc o)) := fun o => (HB2.out.trans ((hb3 o).mono HB2.out.size))
  refine (wake_c3 (some ⟨w2.heap.size, 0, none⟩) 18 _ (rb_lit w2 _ wakeG 18 rfl rfl (by decide) _) (HT.out.on (HB3 _).out)).mono ?_
  rintro e w3 ⟨p3, c3, rfl, hb4⟩
  have HB4 := Lib.hid ((HB3 _).out.trans (hb4.mono (HB3 _).out.size))
  have hR := (HR1'.out.below (hb3 _)).below hb4
  have kc : (convert 23 9 (.slice (some ⟨b1, o1, none⟩) 17 c1)).run Tryd.prog w3 = .ok (.string (strOfNums wakeF)) w3 := by
    have hl : wakeF.length = 17 := by rw [wakeF_eq]; rfl
    have := convert_take hR 17 (by rw [hl]; decide) c1
    rwa [List.take_of_length_le (by rw [hl]; decide)] at this
  have hcell : w3.cell? ⟨b2, o2 + 5, none⟩ = some (.int .u8 6) := by
    have hlt := World.block_lt_of_cell? w2 _ HC.out
    rw [hb4.cell (by simp at hlt ⊢; omega), (hb3 _).cell hlt]
    exact HC.out
  have hstr : (strOfNums wakeF).toList = [80, 54, 10, 50, 32, 49, 10, 50, 53, 53, 10, 1, 2, 3, 4, 5, 6] := by rw [strOfNums_list, wakeF_eq]; rfl
  clear hR hb3 hb4 HB3
  go_wp2
  go_ret
  exact ⟨by simp, HB4.out⟩
end Go.Proofs.YtokfbeikpbnpgaaDoor
