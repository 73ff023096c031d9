/-
  The walk of ppm.numbers: two whole numbers, and these are a head's where the text begins with one.
-/
import Derived.Test.YtokfbeikpbnpgaaDoorRows
import Derived.Test.YtokfbeikpbnpgaaDoorShelf
import Derived.Test.YtokfbeikpbnpgaaDoorMath
import Derived.WalkKit
import Derived.WalkSpells
import Derived.WalkLawsBesides
import Derived.Lib.ConvBytes
namespace Go.Proofs.YtokfbeikpbnpgaaDoor
open Go.RowKit

def W2 (w : World) (s : ByteArray) (a b : Value) (p : Nat) : World := (w.alloc (.cells #[a, b] 22)).iter s p
theorem W2_heap (w : World) (s : ByteArray) (a b : Value) (p : Nat) : (W2 w s a b p).heap = (w.heap.push (.cells #[a, b] 22)).push (.stringIter s p) := rfl
theorem W2_c0 (w : World) (s : ByteArray) (a b : Value) (p : Nat) : (W2 w s a b p).cell? ⟨w.heap.size, 0, none⟩ = some a := by
  simp [World.cell?, W2_heap, Array.getElem?_push]
theorem W2_c1 (w : World) (s : ByteArray) (a b : Value) (p : Nat) : (W2 w s a b p).cell? ⟨w.heap.size, 1, none⟩ = some b := by
  simp [World.cell?, W2_heap, Array.getElem?_push]
theorem W2_f (w : World) (s : ByteArray) (a b : Value) (p j : Nat) : (W2 w s a b p).frozen? ⟨w.heap.size, j, none⟩ = false := by
  simp [World.frozen?, W2_heap, Array.getElem?_push]
theorem world_heap_ext {x y : World} (h1 : x.heap = y.heap) (h2 : x.tape = y.tape) (h3 : x.drawn = y.drawn) (h4 : x.os = y.os) (h5 : x.output = y.output) : x = y := by
  cases x; cases y; simp_all
theorem W2_set (w : World) (s : ByteArray) (a b a' b' v : Value) (p j : Nat) (h : (#[a, b] : Array Value).setIfInBounds j v = #[a', b']) : (W2 w s a b p).setCell ⟨w.heap.size, j, none⟩ v = W2 w s a' b' p := by
  refine world_heap_ext ?_ rfl rfl rfl rfl
  apply Array.ext_getElem?
  intro i
  simp only [World.setCell, W2_heap, Array.getElem?_modify, Array.getElem?_push, Array.size_push]
  by_cases hi : i = w.heap.size
  · subst hi; simp [h]
  · by_cases h2 : i = w.heap.size + 1
    · subst h2; simp
    · have : ¬ w.heap.size = i := fun e => hi e.symm
      simp [hi, h2, this]
theorem W2_below (w : World) (s : ByteArray) (a b : Value) (p : Nat) : Below w.heap.size w (W2 w s a b p) :=
  ((Below.refl _ _).alloc (Nat.le_refl _) _).alloc (by simp) _
theorem W2_pos (w : World) (s : ByteArray) (a b : Value) (p : Nat) : (W2 w s a b p).iterPos (w.heap.size + 1) = p := by
  have : (W2 w s a b p).heap[w.heap.size + 1]? = some (.stringIter s p) := by
    rw [W2_heap, show w.heap.size + 1 = (w.heap.push (Obj.cells #[a, b] 22)).size by simp]
    exact Array.getElem?_push_size
  simp [World.iterPos, this]
theorem W2_next {P : Program} (w : World) (s : ByteArray) (a b : Value) (pos : Nat) (ty : TypeId) (h : pos < s.size) :
    (Instr.next (.pointer (some ⟨w.heap.size + 1, 0, none⟩)) true ty).run P (W2 w s a b pos) =
      .ok (.tuple #[.bool true, .int .i64 pos, .int .i32 (Utf8.decode s pos).1]) (W2 w s a b (pos + (Utf8.decode s pos).2)) := by
  have := run_next_any (P := P) (w.alloc (.cells #[a, b] 22)) s pos ty h
  simpa [W2] using this
theorem W2_end {P : Program} (w : World) (s : ByteArray) (a b : Value) (pos : Nat) (ty : TypeId) (h : ¬ pos < s.size) :
    (Instr.next (.pointer (some ⟨w.heap.size + 1, 0, none⟩)) true ty).run P (W2 w s a b pos) = .ok (.tuple #[.bool false]) (W2 w s a b pos) := by
  have := run_next_end (P := P) (w.alloc (.cells #[a, b] 22)) s pos ty h
  simpa [W2] using this
theorem dec_pos (s : ByteArray) (pos : Nat) (h : pos < s.size) : 1 ≤ (Utf8.decode s pos).2 := by
  by_cases ha : (s[pos]'h).toNat < 128
  · rw [decode_ascii s pos h ha]; exact Nat.le_refl _
  · exact (decode_high s pos h (by omega)).2

/-- The text begins with a head's numbers. -/
def Heads (s : ByteArray) (w0 h0 : Int) : Prop := Side w0 ∧ Side h0 ∧ ∃ l, s.data.toList = partL w0 h0 ++ 10 :: l
/-- Where the loop stands. -/
def J (s : ByteArray) (pos : Nat) (i a b : Int) : Prop := ∀ w0 h0, Heads s w0 h0 → pos ≤ (partL w0 h0).length ∧ go (-1, 0, 0) ((partL w0 h0).take pos) = some (i, a, b)
/-- What is told. -/
def Tells (s : ByteArray) (a b : Int) : Prop := ∀ w0 h0, Heads s w0 h0 → a = w0 ∧ b = h0
theorem J_zero (s : ByteArray) : J s 0 (-1) 0 0 := fun _ _ _ => ⟨Nat.zero_le _, rfl⟩
theorem byte_at (s : ByteArray) (pos : Nat) (h : pos < s.size) : s[pos]'h = s.data.toList[pos]'(by simpa using h) := rfl
theorem J_at {s : ByteArray} {pos : Nat} {w0 h0 : Int} (hH : Heads s w0 h0) (hp : pos < s.size) (hl : pos ≤ (partL w0 h0).length) :
    Utf8.decode s pos = ((((partL w0 h0 ++ [10])[pos]'(by simp; omega)).toNat : Nat), 1) := by
  obtain ⟨a1, a2, l, e⟩ := hH
  have hb : s[pos]'hp = (partL w0 h0 ++ [10])[pos]'(by simp; omega) := by
    rw [byte_at]
    have e' : s.data.toList = (partL w0 h0 ++ [10]) ++ l := by simp [e]
    simp only [e']
    rw [List.getElem_append_left]
  have ha : (s[pos]'hp).toNat < 128 := by
    rw [hb]
    have hm : (partL w0 h0 ++ [10])[pos]'(by simp; omega) ∈ partL w0 h0 ++ [10] := List.getElem_mem _
    rcases List.mem_append.1 hm with h | h
    · exact part_ascii a1 a2 _ h
    · simp only [List.mem_singleton] at h
      rw [h]; decide
  rw [decode_ascii s pos hp ha, hb]
theorem J_next {s : ByteArray} {pos d : Nat} {c : Nat} {i a b i' a' b' : Int} (h : J s pos i a b) (hp : pos < s.size) (hcd : Utf8.decode s pos = (c, d)) (hs : stp (i, a, b) c = some (i', a', b')) : J s (pos + d) i' a' b' := by
  intro w0 h0 hH
  obtain ⟨hl, hg⟩ := h w0 h0 hH
  have hd := J_at hH hp hl
  rw [hcd] at hd
  simp only [Prod.mk.injEq] at hd
  obtain ⟨rfl, rfl⟩ := hd
  by_cases hlt : pos < (partL w0 h0).length
  · obtain ⟨t', h1, h2⟩ := go_next (go_part hH.1 hH.2.1) hlt hg
    rw [List.getElem_append_left hlt] at hs
    rw [hs] at h1
    obtain rfl := Option.some.inj h1
    exact ⟨hlt, h2⟩
  · have : pos = (partL w0 h0).length := by omega
    subst this
    rw [List.take_length, go_part hH.1 hH.2.1] at hg
    obtain ⟨rfl, rfl, rfl⟩ : 1 = i ∧ w0 = a ∧ h0 = b := by simpa using hg
    simp [stp] at hs
theorem J_out {s : ByteArray} {pos d : Nat} {c : Nat} {i a b : Int} (h : J s pos i a b) (hp : pos < s.size) (hcd : Utf8.decode s pos = (c, d)) (hs : stp (i, a, b) c = none) : Tells s a b := by
  intro w0 h0 hH
  obtain ⟨hl, hg⟩ := h w0 h0 hH
  have hd := J_at hH hp hl
  rw [hcd] at hd
  simp only [Prod.mk.injEq] at hd
  obtain ⟨rfl, rfl⟩ := hd
  by_cases hlt : pos < (partL w0 h0).length
  · obtain ⟨t', h1, h2⟩ := go_next (go_part hH.1 hH.2.1) hlt hg
    rw [List.getElem_append_left hlt] at hs
    rw [hs] at h1
    cases h1
  · have : pos = (partL w0 h0).length := by omega
    subst this
    rw [List.take_length, go_part hH.1 hH.2.1] at hg
    obtain ⟨_, rfl, rfl⟩ : 1 = i ∧ w0 = a ∧ h0 = b := by simpa using hg
    exact ⟨rfl, rfl⟩
theorem J_end {s : ByteArray} {pos : Nat} {i a b : Int} (h : J s pos i a b) (hp : ¬ pos < s.size) : Tells s a b := by
  intro w0 h0 hH
  obtain ⟨hl, hg⟩ := h w0 h0 hH
  obtain ⟨_, _, l, e⟩ := hH
  have : s.size = (partL w0 h0).length + (l.length + 1) := by
    have := congrArg List.length e
    simpa using this
  omega

def NumPost (s : ByteArray) (w : World) (e : Ending) (w' : World) : Prop := ∃ a b : Int, e = .returned (.tuple #[.int .i64 a, .int .i64 b]) ∧ (-9223372036854775808 ≤ a ∧ a ≤ 9223372036854775807 ∧ -9223372036854775808 ≤ b ∧ b ≤ 9223372036854775807) ∧ Tells s a b ∧ Below w.heap.size w w'
def Rng (a : Int) : Prop := -9223372036854775808 ≤ a ∧ a ≤ 9223372036854775807
theorem rng_up (a c : Int) : Rng (wrap64 (wrap64 (a * 10) + (c - 48))) := by unfold Rng wrap64; omega
set_option maxHeartbeats 1000000 in
theorem numbers_any (s : ByteArray) (w : World) : Calls Tryd.prog 15 #[.string s] w (NumPost s w) := by
  go_enter Tryd.func15, Tryd.ntmps15
  go_wp2
  go_loopw [2, 3, 5, 7] (fun n2 n3 at5 c7 w' => ∃ (pos : Nat) (i a b : Int), w' = W2 w s (.int .i64 a) (.int .i64 b) pos ∧ at5 = .int .i64 i ∧ (i = -1 ∨ i = 0 ∨ i = 1) ∧ J s pos i a b ∧ Rng a ∧ Rng b) (fun _ _ _ _ w' => s.size - w'.iterPos (w.heap.size + 1))
  case atStart => exact ⟨0, -1, 0, 0, rfl, rfl, .inl rfl, J_zero s, ⟨by decide, by decide⟩, ⟨by decide, by decide⟩⟩
  case round =>
    obtain ⟨pos, i, a, b, rfl, rfl, hi, hJ, ha, hb⟩ := hrel
    have hc0 := fun p => W2_c0 w s (.int .i64 a) (.int .i64 b) p
    have hc1 := fun p => W2_c1 w s (.int .i64 a) (.int .i64 b) p
    have hf := fun p j => W2_f w s (.int .i64 a) (.int .i64 b) p j
    have hs0 := fun p v => W2_set w s (.int .i64 a) (.int .i64 b) v (.int .i64 b) v p 0 rfl
    have hs1 := fun p v => W2_set w s (.int .i64 a) (.int .i64 b) (.int .i64 a) v v p 1 rfl
    by_cases hp : pos < s.size
    · have hnx := fun ty => W2_next (P := Tryd.prog) w s (.int .i64 a) (.int .i64 b) pos ty hp
      have hd := dec_pos s pos hp
      obtain ⟨c, d, hcd⟩ : ∃ c d, Utf8.decode s pos = (c, d) := ⟨_, _, rfl⟩
      rw [hcd] at hd
      simp only [hcd] at hnx
      dsimp only at hd
      have HN := @J_next s pos d c i a b
      have HO := @J_out s pos d c i a b hJ hp hcd
      have HN' := fun i' a' b' => @HN i' a' b' hJ hp hcd
      have HN2 := Hid.out (p := True)
      clear HN HN2 hJ
      have H1 : Hid (stp (i, a, b) c = none → Tells s a b) := HO
      have H2 : Hid (∀ i' a' b', stp (i, a, b) c = some (i', a', b') → J s (pos + d) i' a' b') := HN'
      have Ha : Hid (Rng a) := ha
      have Hb : Hid (Rng b) := hb
      clear hcd HO HN' ha hb
      rcases hi with rfl | rfl | rfl
      · by_cases h10 : (c : Int) = 10
        all_goals
          go_wp2
          go_roundw
          case rel => exact ⟨_, _, _, _, rfl, rfl, by simp, H2.out _ _ _ (by simp [stp, h10]), Ha.out, Hb.out⟩
          case measure => rw [W2_pos, W2_pos]; omega
      · by_cases h48 : 48 ≤ (c : Int) ∧ (c : Int) ≤ 57
        · have h1 := h48.1
          have h2 := h48.2
          go_wp2
          go_roundw
          case rel => exact ⟨_, _, _, _, rfl, rfl, by simp, H2.out _ _ _ (by unfold stp; rw [if_neg (by simp), if_pos ⟨h1, h2⟩, if_pos rfl]; rfl), rng_up _ _, Hb.out⟩
          case measure => rw [W2_pos, W2_pos]; omega
        · by_cases h32 : (c : Int) = 32
          · have h48' : ¬ 48 ≤ (c : Int) := by omega
            go_wp2
            go_roundw
            case rel => exact ⟨_, _, _, _, rfl, rfl, by simp, H2.out _ _ _ (by unfold stp; rw [if_neg (by simp), if_neg h48, if_pos ⟨rfl, h32⟩]), Ha.out, Hb.out⟩
            case measure => rw [W2_pos, W2_pos]; omega
          · have ht := H1.out (by unfold stp; rw [if_neg (by simp), if_neg h48, if_neg (by simp [h32])])
            have Ht : Hid (Tells s a b) := ht
            clear ht H1 H2
            by_cases h1 : 48 ≤ (c : Int)
            · have h2 : ¬ (c : Int) ≤ 57 := fun h => h48 ⟨h1, h⟩
              go_wp2
              go_region
              all_goals (try go_wp2)
              all_goals go_ret2
              all_goals exact ⟨a, b, rfl, ⟨Ha.out.1, Ha.out.2, Hb.out.1, Hb.out.2⟩, Ht.out, (W2_below w s _ _ _).drew⟩
            · go_wp2
              go_region
              all_goals (try go_wp2)
              all_goals go_ret2
              all_goals exact ⟨a, b, rfl, ⟨Ha.out.1, Ha.out.2, Hb.out.1, Hb.out.2⟩, Ht.out, (W2_below w s _ _ _).drew⟩
      · by_cases h48 : 48 ≤ (c : Int) ∧ (c : Int) ≤ 57
        · have h1 := h48.1
          have h2 := h48.2
          go_wp2
          go_roundw
          case rel => exact ⟨_, _, _, _, rfl, rfl, by simp, H2.out _ _ _ (by unfold stp; rw [if_neg (by simp), if_pos ⟨h1, h2⟩, if_neg (by simp)]; rfl), Ha.out, rng_up _ _⟩
          case measure => rw [W2_pos, W2_pos]; omega
        · have ht := H1.out (by unfold stp; rw [if_neg (by simp), if_neg h48, if_neg (by simp)])
          have Ht : Hid (Tells s a b) := ht
          clear ht H1 H2
          by_cases h1 : 48 ≤ (c : Int)
          · have h2 : ¬ (c : Int) ≤ 57 := fun h => h48 ⟨h1, h⟩
            go_wp2
            go_region
            all_goals (try go_wp2)
            all_goals go_ret2
            all_goals exact ⟨a, b, rfl, ⟨Ha.out.1, Ha.out.2, Hb.out.1, Hb.out.2⟩, Ht.out, (W2_below w s _ _ _).drew⟩
          · go_wp2
            go_region
            all_goals (try go_wp2)
            all_goals go_ret2
            all_goals exact ⟨a, b, rfl, ⟨Ha.out.1, Ha.out.2, Hb.out.1, Hb.out.2⟩, Ht.out, (W2_below w s _ _ _).drew⟩
    · have hnx := fun ty => W2_end (P := Tryd.prog) w s (.int .i64 a) (.int .i64 b) pos ty hp
      have Ht : Hid (Tells s a b) := J_end hJ hp
      have Ha : Hid (Rng a) := ha
      have Hb : Hid (Rng b) := hb
      clear hJ ha hb
      go_wp2
      go_region
      all_goals (try go_wp2)
      all_goals go_ret2
      all_goals exact ⟨a, b, rfl, ⟨Ha.out.1, Ha.out.2, Hb.out.1, Hb.out.2⟩, Ht.out, (W2_below w s _ _ _).drew⟩
end Go.Proofs.YtokfbeikpbnpgaaDoor
