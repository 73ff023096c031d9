/-
  The walks of ppm.side, ppm.head, ppm.Encode, the reference's dec and Encode: what each hands back.
-/
import Derived.Test.YtokfbeikpbnpgaaDoorNumbers
import Derived.ArgAppend
import Derived.Lib.AppendStr
import Derived.Lib.AppendIntMem
import Derived.Lib.Hide
namespace Go.Proofs.YtokfbeikpbnpgaaDoor
open Go.RowKit

theorem side_any (n : Int) (w : World) :
    Calls Tryd.prog 12 #[.int .i64 n] w fun e w' => e = .returned (.bool (decide (1 ≤ n) && decide (n ≤ 8192))) ∧ w = w' := by
  go_enter Tryd.func12, Tryd.ntmps12
  by_cases h : 1 ≤ n
  · have h' : decide (1 ≤ n) = true := by simpa using h
    go_wp2
    go_ret
    exact ⟨by rw [h', Bool.true_and]; rfl, rfl⟩
  · have h' : decide (1 ≤ n) = false := by simpa using h
    go_wp2
    go_ret
    exact ⟨by simp, rfl⟩
theorem side_yes (n : Int) (w : World) (h : Side n) : Calls Tryd.prog 12 #[.int .i64 n] w fun e w' => e = .returned (.bool true) ∧ w = w' :=
  (side_any n w).mono fun e w' ⟨he, hw⟩ => ⟨by rw [he]; simp [h.1, h.2], hw⟩
theorem side_no (n : Int) (w : World) (h : ¬ Side n) : Calls Tryd.prog 12 #[.int .i64 n] w fun e w' => e = .returned (.bool false) ∧ w = w' :=
  (side_any n w).mono fun e w' ⟨he, hw⟩ => ⟨by rw [he]; unfold Side at h; simp; omega, hw⟩

abbrev Tab (w : World) : Prop := Lib.TabBelow Tryd.prog w.heap.size w "internal/strconv.uint64pow10" .u64 Lib.pow10Tab
theorem Tab.on {w w' : World} (h : Tab w) (hb : Below w.heap.size w w') : Tab w' := fun w2 hb2 => h w2 (hb.trans (hb2.mono hb.size))

/-- The bytes of a text in a row of the call's own, with cells behind them that may be written. -/
def Fresh (w0 w : World) (l : List UInt8) (v : Value) : Prop := ∃ g cap, v = .slice (some ⟨g, 0, none⟩) l.length cap ∧ w0.heap.size ≤ g ∧ l.length ≤ cap ∧
  (∀ j, j < l.length → w.cell? ⟨g, j, none⟩ = some (.int .u8 ((l.getD j 0).toNat : Int))) ∧ (∀ j, j < cap → (w.cell? ⟨g, j, none⟩).isSome = true ∧ w.frozen? ⟨g, j, none⟩ = false)
theorem below_bytes (w : World) (e : TypeId) (s : ByteArray) : Below w.heap.size w (Lib.bytesWorld w e s) :=
  ⟨rfl, rfl, rfl, by rw [Lib.bytesWorld_size]; omega, fun k hk => Lib.bytesWorld_at_old w e s k hk⟩
theorem bytesCells_size (w : World) (e : TypeId) (s : ByteArray) : (Lib.bytesCells w e s).size = grownCap w s.size 0 e := by
  have := grownCap_ge w s.size 0 e
  have h2 : s.data.size = s.size := rfl
  simp only [Lib.bytesCells, Array.size_append, Array.size_map, Array.size_replicate]
  omega
theorem fresh_bytes (w0 w : World) (e : TypeId) (s : ByteArray) (h : w0.heap.size ≤ w.heap.size) : Fresh w0 (Lib.bytesWorld w e s) s.data.toList (.slice (some ⟨w.heap.size, 0, none⟩) s.size (grownCap w s.size 0 e)) := by
  have hl : s.data.toList.length = s.size := Array.length_toList
  refine ⟨w.heap.size, _, by rw [hl], h, by rw [hl]; exact grownCap_ge w s.size 0 e, fun j hj => Lib.bytesWorld_cell w e s j (by omega), fun j hj => ?_⟩
  rw [← bytesCells_size] at hj
  constructor
  · simp only [World.cell?, Lib.bytesWorld_at_new]
    simp [hj]
  · simp only [World.frozen?, Lib.bytesWorld_at_new]
    have : ¬ (Lib.bytesCells w e s).size ≤ j := by omega
    simp [this]

def HeadPost (a b : Int) (w : World) (e : Ending) (w' : World) : Prop := ∃ v, e = .returned v ∧ Fresh w w' (headL a b) v ∧ Below w.heap.size w w'
set_option maxHeartbeats 400000 in
theorem head_any (a b : Int) (w : World) (ha : Rng a) (hb : Rng b) (ht : Tab w) :
    Calls Tryd.prog 13 #[.int .i64 a, .int .i64 b] w (HeadPost a b w) := by
  have kc := fun w s => Lib.run_convert_string_bytes (P := Tryd.prog) w 9 23 5 s Tryd.underlying9 Tryd.underlying23 Tryd.underlying5
  have la := Lib.itoa_length_le a ha.1 ha.2
  have lb := Lib.itoa_length_le b hb.1 hb.2
  go_enter Tryd.func13, Tryd.ntmps13
  go_wp2_with fail
  refine (Tryd.strconv_Itoa a ha.1 ha.2 w ht.here).mono ?_
  rintro e w1 ⟨rfl, k1, os1, hw1⟩
  have hb1 : Below w.heap.size w w1 := by rw [hw1]; exact Lib.below_grow _ _ (Nat.le_refl _) _ _
  clear hw1
  go_wp2_with fail
  refine (Tryd.strconv_Itoa b hb.1 hb.2 w1 (ht.on hb1).here).mono ?_
  rintro e w2 ⟨rfl, k2, os2, hw2⟩
  have hb2 : Below w1.heap.size w1 w2 := by rw [hw2]; exact Lib.below_grow _ _ (Nat.le_refl _) _ _
  clear hw2
  have hb12 : Below w.heap.size w w2 := hb1.trans (hb2.mono hb1.size)
  go_wp2
  go_ret
  refine ⟨_, rfl, ?_, hb12.trans ((below_bytes _ _ _).mono hb12.size)⟩
  have := fresh_bytes w w2 5 ({ data := #[80, 54, 10] } ++ { data := (Lib.itoa a).toArray } ++ { data := #[32] } ++ { data := (Lib.itoa b).toArray } ++ { data := #[10, 50, 53, 53, 10] } : ByteArray) hb12.size
  have e : ({ data := #[80, 54, 10] } ++ { data := (Lib.itoa a).toArray } ++ { data := #[32] } ++ { data := (Lib.itoa b).toArray } ++ { data := #[10, 50, 53, 53, 10] } : ByteArray).data.toList = headL a b := by
    simp [headL]
  have es : ({ data := #[80, 54, 10] } ++ { data := (Lib.itoa a).toArray } ++ { data := #[32] } ++ { data := (Lib.itoa b).toArray } ++ { data := #[10, 50, 53, 53, 10] } : ByteArray).size = 3 + (Lib.itoa a).length + 1 + (Lib.itoa b).length + 5 := by
    simp [ByteArray.size]; omega
  rw [e, es] at this
  exact this

/-- A slice of bytes that reads as these numbers. -/
def RB (w : World) (p : Option Addr) (c : Nat) (xs : List Int) : Prop := xs.length ≤ c ∧ (p = none → c = 0) ∧ Lib.BytesIn w p xs.length xs ∧ ∀ x ∈ xs, 0 ≤ x ∧ x < 256
theorem bytesIn_below {w w' : World} {p : Option Addr} {n : Nat} {xs : List Int} (h : Lib.BytesIn w p n xs) (hb : Below w.heap.size w w') : Lib.BytesIn w' p n xs := fun hn => by
  obtain ⟨b, o, rfl, hc⟩ := h hn
  exact ⟨b, o, rfl, fun i hi => (hb.cell (World.block_lt_of_cell? w _ (hc i hi))).trans (hc i hi)⟩
theorem RB.below {w w' : World} {p : Option Addr} {c : Nat} {xs : List Int} (h : RB w p c xs) (hb : Below w.heap.size w w') : RB w' p c xs := ⟨h.1, h.2.1, bytesIn_below h.2.2.1 hb, h.2.2.2⟩
theorem RB.nil (w : World) : RB w none 0 [] := ⟨Nat.le_refl _, fun _ => rfl, Lib.BytesIn.nil _ _ _, fun _ h => absurd h (by simp)⟩
def nums (l : List UInt8) : List Int := l.map fun c => (c.toNat : Int)
theorem nums_length (l : List UInt8) : (nums l).length = l.length := by simp [nums]
theorem nums_get (l : List UInt8) (j : Nat) (h : j < l.length) : (nums l).getD j 0 = ((l.getD j 0).toNat : Int) := by simp [nums, List.getD, h]
theorem nums_rng (l : List UInt8) : ∀ x ∈ nums l, 0 ≤ x ∧ x < 256 := by
  intro x hx
  obtain ⟨c, _, rfl⟩ := List.mem_map.1 hx
  have := c.toNat_lt
  omega
theorem nums_bytes (xs : List Int) (h : ∀ x ∈ xs, 0 ≤ x ∧ x < 256) : nums (Lib.bytesOf xs) = xs := by
  unfold nums Lib.bytesOf
  rw [List.map_map]
  conv => rhs; rw [← List.map_id xs]
  apply List.map_congr_left
  intro x hx
  have := h x hx
  simp only [Function.comp, id, UInt8.toNat_ofNat']
  omega
theorem bytes_nums (l : List UInt8) : Lib.bytesOf (nums l) = l := by
  unfold nums Lib.bytesOf
  rw [List.map_map]
  conv => rhs; rw [← List.map_id l]
  apply List.map_congr_left
  intro x _
  simp
theorem Fresh.rb {w0 w : World} {l : List UInt8} {v : Value} (h : Fresh w0 w l v) : ∃ p c, v = .slice p (nums l).length c ∧ RB w p c (nums l) := by
  obtain ⟨g, cap, rfl, hg, hn, hc, _⟩ := h
  exact ⟨_, cap, by rw [nums_length], by rw [nums_length]; exact hn, (fun h => by cases h), fun _ => ⟨g, 0, rfl, fun i hi => by rw [Nat.zero_add, hc i (by rwa [nums_length] at hi), nums_get _ _ (by rwa [nums_length] at hi)]⟩, nums_rng l⟩

theorem below_setCells {B b : Nat} {w : World} (hb : B ≤ b) : ∀ (vs : List Value) (o : Nat) (w' : World), Below B w w' → Below B w (w'.setCells b o vs)
  | [], _, _, h => h
  | v :: vs, o, _, h => below_setCells hb vs (o + 1) _ (h.setCell (p := ⟨b, o, none⟩) hb v)
theorem RB.cells {w : World} {b o n c : Nat} {xs : List Int} (hn : xs.length = n) (hnc : n ≤ c) (hr : ∀ x ∈ xs, 0 ≤ x ∧ x < 256) (hc : ∀ i, i < n → w.cell? ⟨b, o + i, none⟩ = some (.int .u8 (xs.getD i 0))) : RB w (some ⟨b, o, none⟩) c xs := by
  subst hn
  exact ⟨hnc, (fun h => by cases h), fun _ => ⟨b, o, rfl, hc⟩, hr⟩
theorem RB.own {w : World} {base : Nat} {v : Value} {n : Nat} {xs : List Int} (h : w.ownsRow base 5 1 v n (xs.map (Value.int .u8))) (hr : ∀ x ∈ xs, 0 ≤ x ∧ x < 256) : ∃ p c, v = .slice p xs.length c ∧ RB w p c xs := by
  have hl : xs.length = n := by have := h.1; simpa using this
  subst hl
  rcases h.2 with ⟨rfl, h0⟩ | ⟨g, cap, cur, rfl, _, hg, hnc, _⟩
  · have : xs = [] := List.eq_nil_of_length_eq_zero h0
    subst this
    exact ⟨none, 0, rfl, RB.nil w⟩
  · refine ⟨_, cap, rfl, RB.cells rfl hnc hr fun i hi => ?_⟩
    rw [Nat.zero_add, World.ownsRow.cellAt h i (by omega), List.getElem?_map, List.getElem?_eq_getElem hi]
    simp [List.getD, hi]

theorem info5 : (Tryd.prog.info? 5).map (fun i => (i.zero, i.size, i.bytes)) = some (some (.int .u8 0), 1, 1) := by kernel_rfl

/-- An append of bytes to a row that the call has just made of a text: both ways at once. -/
theorem wpList_append_fresh {P : Program} (w0 w : World) {ops : Array Oper} {rest : List Oper} {o : Oper} {a : Act} {Q : Exit → Act → World → Prop}
    (hg : o.guard = none) (s x : Operand) (t : TypeId) (hop : o.op = Op.call { callee := Callee.builtin Builtin.append, args := #[s, x], argTypes := #[t, t] })
    (h1 : P.underlying t = some (.slice 5)) (h2 : (P.info? 5).map (fun i => (i.zero, i.size, i.bytes)) = some (some (.int .u8 0), 1, 1))
    (l : List UInt8) (v : Value) (hs : a.eval s = v) (hF : Fresh w0 w l v) (bb oo c : Nat) (xs : List Int) (hx : a.eval x = .slice (some ⟨bb, oo, none⟩) xs.length c)
    (hc1 : ∀ i, i < xs.length → w.cell? ⟨bb, oo + i, none⟩ = some (.int .u8 (xs.getD i 0))) (hrg : ∀ x ∈ xs, 0 ≤ x ∧ x < 256) (hl : l.length + xs.length ≤ 140737488355328)
    (hsz : w0.heap.size ≤ w.heap.size)
    (hK : ∀ p c' w2, RB w2 p c' (nums l ++ xs) → Below w0.heap.size w w2 → wpList P ops Q rest (a.put o.dst (.slice p (nums l ++ xs).length c')) w2) :
    wpList P ops Q (o :: rest) a w := by
  obtain ⟨g, cap, rfl, hg0, hcap, hcells, hspare⟩ := hF
  obtain ⟨i0, hi, hz0, hz1, hz2⟩ := info_parts h2
  have hll : (nums l ++ xs).length = l.length + xs.length := by rw [List.length_append, nums_length]
  have hall : ∀ x ∈ nums l ++ xs, 0 ≤ x ∧ x < 256 := fun x hx => by
    rcases List.mem_append.1 hx with h | h
    · exact nums_rng _ x h
    · exact hrg x h
  refine wpList_append_arg w hg s x t hop 5 i0 (.int .u8 0) 1 1 h1 hi hz0 hz1 hz2 rfl (by decide) g 0 _ cap ((nums l).map (Value.int .u8)) hs (by simp [nums_length]) ?olds ⟨bb, oo, none⟩ xs.length c (xs.map (Value.int .u8)) hx (by simp) ?c1 ?c2 ?spare ?maxLen ?bytes ?room ?grow
  case c2 => intro u hu; obtain ⟨x, _, rfl⟩ := List.mem_map.1 hu; rfl
  case maxLen => unfold maxLen; omega
  case bytes => omega
  case olds =>
    intro j u hj
    rw [List.getElem?_map] at hj
    have hjl : j < l.length := by
      rcases Nat.lt_or_ge j l.length with h | h
      · exact h
      · rw [List.getElem?_eq_none (by rwa [nums_length])] at hj; cases hj
    rw [Nat.zero_add, hcells j hjl, ← nums_get _ _ hjl]
    rw [List.getElem?_eq_getElem (by rwa [nums_length])] at hj
    simp [List.getD, nums_length, hjl] at hj ⊢
    exact hj
  case c1 =>
    intro j u hj
    rw [List.getElem?_map] at hj
    have hjl : j < xs.length := by
      rcases Nat.lt_or_ge j xs.length with h | h
      · exact h
      · rw [List.getElem?_eq_none h] at hj; cases hj
    rw [Addr.add_lit, hc1 j hjl]
    rw [List.getElem?_eq_getElem hjl] at hj
    simp [List.getD, hjl] at hj ⊢
    exact hj
  case spare =>
    intro h j hj
    have hj' : j < xs.length := by simpa using hj
    have := hspare (l.length + j) (by omega)
    simpa using this
  case room =>
    intro hroom
    rw [show 0 + l.length * 1 = l.length by omega]
    have hin := World.cell?_setCells_in g (xs.map (Value.int .u8)) l.length w (fun j hj => by
      have h3 : j < xs.length := by simpa using hj
      exact (hspare (l.length + j) (by omega)).1)
    have hout : ∀ i, i < l.length → (w.setCells g l.length (xs.map (Value.int .u8))).cell? ⟨g, i, none⟩ = some (.int .u8 ((l.getD i 0).toNat : Int)) := fun i hi => by
      rw [World.cell?_setCells_out g _ _ _ _ (fun _ _ => .inl hi)]; exact hcells i hi
    have := hK (some ⟨g, 0, none⟩) cap (w.setCells g l.length (xs.map (Value.int .u8))) (by
      refine RB.cells hll hroom hall fun i hi => ?_
      rw [Nat.zero_add]
      by_cases hi2 : i < l.length
      · rw [hout i hi2, ← nums_get _ _ hi2]
        simp [List.getD, List.getElem?_append, nums_length, hi2]
      · have := hin (i - l.length) (by simp; omega)
        rw [show l.length + (i - l.length) = i by omega] at this
        rw [this]
        simp [List.getD, List.getElem?_append, nums_length, hi2, show i - l.length < xs.length by omega]) (below_setCells (B := w0.heap.size) (b := g) hg0 _ _ w (Below.refl _ _))
    rwa [hll] at this
  case grow =>
    intro hgrow v' w2 hown hg2
    rw [← List.map_append] at hown
    obtain ⟨p2, c2, rfl, hR⟩ := RB.own hown hall
    exact hK p2 c2 w2 hR ((Below.refl _ _).grown hg2 hsz (fun k hk => by cases hk))

open Classical in
noncomputable def encS (a b : Int) (xs : List Int) : List Int × Int :=
  if Side a ∧ Side b then (if (xs.length : Int) = 3 * a * b then (nums (headL a b) ++ xs, 0) else ([], 11)) else ([], 1)
def EncPost (s : List Int × Int) (w : World) (e : Ending) (w' : World) : Prop := ∃ p c, e = .returned (.tuple #[.slice p s.1.length c, .int .i64 s.2]) ∧ RB w' p c s.1 ∧ Below w.heap.size w w'

set_option maxHeartbeats 400000 in
theorem enc_no (a b : Int) (p : Option Addr) (c : Nat) (xs : List Int) (w : World) (h : ¬ (Side a ∧ Side b)) :
    Calls Tryd.prog 7 #[.int .i64 a, .int .i64 b, .slice p xs.length c] w (EncPost ([], 1) w) := by
  by_cases ha : Side a
  · have hb : ¬ Side b := fun hb => h ⟨ha, hb⟩
    go_enter Tryd.func7, Tryd.ntmps7
    go_wp2_with (first | (go_at_call 12; refine (side_yes a _ ha).mono ?_; rintro e w1 ⟨rfl, rfl⟩; clear ha) | (go_at_call 12; refine (side_no b _ hb).mono ?_; rintro e w1 ⟨rfl, rfl⟩))
    go_ret2
    exact ⟨none, 0, rfl, RB.nil _, Below.refl _ _⟩
  · go_enter Tryd.func7, Tryd.ntmps7
    go_wp2_with (go_at_call 12; refine (side_no a _ ha).mono ?_; rintro e w1 ⟨rfl, rfl⟩)
    go_ret2
    exact ⟨none, 0, rfl, RB.nil _, Below.refl _ _⟩
set_option maxHeartbeats 400000 in
theorem enc_yes (a b : Int) (p : Option Addr) (c : Nat) (xs : List Int) (w : World) (ha : Side a) (hb : Side b) (hr : RB w p c xs) (ht : Tab w) (hl : xs.length ≤ 140737488351232) :
    Calls Tryd.prog 7 #[.int .i64 a, .int .i64 b, .slice p xs.length c] w (EncPost (encS a b xs) w) := by
  have e3 : IntKind.i64.wrap (3 * a) = 3 * a := IntWalk.i64_in _ (by have := ha.1; have := ha.2; omega)
  have hab : 1 ≤ a * b ∧ a * b ≤ 8192 * 8192 := by
    have := ha.1; have := ha.2; have := hb.1; have := hb.2
    exact ⟨by have := Int.mul_le_mul (a := 1) (b := 1) (c := a) (d := b) (by omega) (by omega) (by omega) (by omega); omega, Int.mul_le_mul (by omega) (by omega) (by omega) (by omega)⟩
  have e4 : wrap64 (3 * a * b) = 3 * a * b := by rw [Int.mul_assoc]; unfold wrap64; omega
  clear e3
  by_cases hx : (xs.length : Int) = 3 * a * b
  · have es : encS a b xs = (nums (headL a b) ++ xs, 0) := by unfold encS; rw [if_pos ⟨ha, hb⟩, if_pos hx]
    rw [es]
    have hn : 0 < xs.length := by rw [Int.mul_assoc] at hx; omega
    obtain ⟨_, _, hin, hrg⟩ := hr
    obtain ⟨bb, oo, rfl, hc⟩ := hin hn
    have hlen := headL_length ha hb
    have hne : ((xs.length : Int) != 3 * a * b) = false := by simpa using hx
    have hra : Rng a := ⟨by have := ha.1; omega, by have := ha.2; omega⟩
    have hrb : Rng b := ⟨by have := hb.1; omega, by have := hb.2; omega⟩
    obtain ⟨i0, hi, hz0, hz1, hz2⟩ := info_parts info5
    clear es hab hx
    have a1 : 1 ≤ a := ha.1
    have a2 : a ≤ 8192 := ha.2
    go_enter Tryd.func7, Tryd.ntmps7
    go_wp2_with (first | (go_at_call 12; refine (side_yes _ _ (by assumption)).mono ?_; rintro e w1 ⟨rfl, rfl⟩))
    refine (head_any a b _ hra hrb ht).mono ?_
    rintro e w1 ⟨v, rfl, hF, hb1⟩
    have hc1 : ∀ i, i < xs.length → w1.cell? ⟨bb, oo + i, none⟩ = some (.int .u8 (xs.getD i 0)) := fun i hi => (hb1.cell (World.block_lt_of_cell? w _ (hc i hi))).trans (hc i hi)
    have HF : Hid (Fresh w w1 (headL a b) v) := hF
    have HC : Hid (∀ i, i < xs.length → w1.cell? ⟨bb, oo + i, none⟩ = some (.int .u8 (xs.getD i 0))) := hc1
    have hlen2 : (headL a b).length + xs.length ≤ 140737488355328 := by omega
    clear hF hc1 hc
    go_wp2_with (first | (at_builtin; (refine wpList_append_fresh w _ rfl (.tmp 27) (.tmp 28) 23 rfl Tryd.underlying23 info5 (headL a b) _ rfl HF.out bb oo c xs rfl HC.out hrg hlen2 hb1.size ?_); intro p2 c2 w2 hR hb2; have HR := Lib.hid hR; have HB := Lib.hid hb2; clear hR hb2))
    go_ret2
    exact ⟨p2, c2, by rw [List.length_append]; rfl, HR.out, hb1.trans (HB.out)⟩
  · have es : encS a b xs = ([], 11) := by unfold encS; rw [if_pos ⟨ha, hb⟩, if_neg hx]
    rw [es]
    have hne : ((xs.length : Int) != 3 * a * b) = true := by simpa using hx
    clear es hab hx
    have a1 : 1 ≤ a := ha.1
    have a2 : a ≤ 8192 := ha.2
    go_enter Tryd.func7, Tryd.ntmps7
    go_wp2_with (first | (go_at_call 12; refine (side_yes _ _ (by assumption)).mono ?_; rintro e w1 ⟨rfl, rfl⟩))
    go_ret2
    exact ⟨none, 0, rfl, RB.nil _, Below.refl _ _⟩
end Go.Proofs.YtokfbeikpbnpgaaDoor
