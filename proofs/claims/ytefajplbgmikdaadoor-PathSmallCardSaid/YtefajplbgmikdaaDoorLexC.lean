/-
  The walk of lex.Cut.
-/
import Derived.Test.YtefajplbgmikdaaDoorLexB
namespace Go.Proofs.YtefajplbgmikdaaDoor
open Go.RowKit

theorem asc_next {s : ByteArray} {pos nx : Nat} (h : AscAt s pos nx) : AscAt s (pos + 1) nx := fun j hj h1 h2 => h j hj (by omega) h2
theorem asc_none (s : ByteArray) {pos nx : Nat} (h : nx ≤ pos) : AscAt s pos nx := fun _ _ _ _ => by omega
theorem asc_run {s : ByteArray} {q k : Nat} (hk : k ≠ 0) : AscAt s q (q + runL k ((bl s).drop q)) := fun j hj h1 h2 => by
  have := runL_get k ((bl s).drop q) (j - q) (by rw [List.length_drop, bl_length]; omega) (by omega)
  refine kd_lt ?_
  have e : ((bl s).drop q)[j - q]'(by rw [List.length_drop, bl_length]; omega) = s[j]'hj := by
    simp only [List.getElem_drop, show q + (j - q) = j by omega]
    rfl
  rw [e] at this
  omega
theorem run_le {s : ByteArray} {q k : Nat} (h : q ≤ s.size) : q + runL k ((bl s).drop q) ≤ s.size := by
  have := runL_le k ((bl s).drop q)
  rw [List.length_drop, bl_length] at this
  omega
theorem dig_run (s : ByteArray) (q : Nat) : DigL (((bl s).drop q).take (runL 3 ((bl s).drop q))) := fun c hc => by
  obtain ⟨j, hj, rfl⟩ := List.mem_iff_getElem.1 hc
  have hj' := hj
  rw [List.length_take] at hj'
  rw [List.getElem_take]
  exact kd_dig (runL_get 3 _ j (by omega) (by omega))
theorem bl_from (s : ByteArray) (q : Nat) : bl (s.extract q s.size) = (bl s).drop q := by
  simp only [bl, ByteArray.data_extract, Array.toList_extract, List.extract_eq_take_drop]
  exact List.take_of_length_le (by simp)
theorem bl_part (s : ByteArray) (q n : Nat) : bl (s.extract q (q + n)) = ((bl s).drop q).take n := by
  simp [bl, ByteArray.data_extract]
theorem mk_bl (s : ByteArray) : (⟨(bl s).toArray⟩ : ByteArray) = s := by simp [bl]

/-- A box of four cells behind a world. -/
def Box4 (W V : World) (c0 c1 c2 c3 : Value) : Prop := Bel W V ∧ V.cell? ⟨W.heap.size, 0, none⟩ = some c0 ∧ V.cell? ⟨W.heap.size, 1, none⟩ = some c1 ∧ V.cell? ⟨W.heap.size, 2, none⟩ = some c2 ∧ V.cell? ⟨W.heap.size, 3, none⟩ = some c3
theorem box4 (W : World) (c0 c1 c2 c3 : Value) (t : TypeId) (o : Obj) : Box4 W (((W.alloc (.cells #[c0, c1, c2, c3] t)).alloc o).drew) c0 c1 c2 c3 := by
  have h : ∀ j v, (#[c0, c1, c2, c3] : Array Value)[j]? = some v → (((W.alloc (.cells #[c0, c1, c2, c3] t)).alloc o).drew).cell? ⟨W.heap.size, j, none⟩ = some v := fun j v hj => by
    have h1 : (W.alloc (.cells #[c0, c1, c2, c3] t)).cell? ⟨W.heap.size, j, none⟩ = some v := by rw [World.cell?_alloc_mark]; exact hj
    exact ((Bel.refl (W.alloc (.cells #[c0, c1, c2, c3] t))).alloc o).cell h1
  exact ⟨(((Bel.refl W).alloc _).alloc _).drew, h 0 _ rfl, h 1 _ rfl, h 2 _ rfl, h 3 _ rfl⟩
theorem push_rel {w W V w3 : World} {s : ByteArray} {p : Nat} {v v3 : Value} {acc : List Tok} {t : Tok} {cs : List Value} (hV : Bel W V) (ho : W.ownsRow w.heap.size 106 4 v acc.length (toksC acc))
    (hit : W.heap[w.heap.size]? = some (.stringIter s p)) (hb : Below w.heap.size w W) (ho3 : w3.ownsRow w.heap.size 106 4 v3 (acc.length + 1) (toksC acc ++ cs)) (hg : V.grownBy w3 v.ownBlock) (hc : cs = tokC t) :
    w3.ownsRow w.heap.size 106 4 v3 (acc ++ [t]).length (toksC (acc ++ [t])) ∧ w3.heap[w.heap.size]? = some (.stringIter s p) ∧ Below w.heap.size w w3 := by
  subst hc
  have hlt := (Array.getElem?_eq_some_iff.1 hit).1
  refine ⟨by rw [toksC_snoc, List.length_append]; exact ho3, ?_, ?_⟩
  · rw [hg.block _ (Nat.lt_of_lt_of_le hlt hV.size) (own_ne_iter ho hit), Below.block hV _ hlt]
    exact hit
  · exact ((Bel.trans hb hV).grown hg (Nat.le_trans (Below.size hb) hV.size) (fun k hk => (ho.lt k hk).1))
theorem run2_any (s : ByteArray) (q : Nat) (w : World) : Calls Tryd.prog 60 #[.string (s.extract q s.size), .int .i64 2] w fun e w' => e = .returned (.int .i64 (runL 2 ((bl s).drop q))) ∧ ∃ o, w' = w.alloc o := by
  rw [← bl_from]
  exact run_any (s.extract q s.size) 2 (by decide) w
theorem run3_any (s : ByteArray) (q : Nat) (w : World) : Calls Tryd.prog 60 #[.string (s.extract q s.size), .int .i64 3] w fun e w' => e = .returned (.int .i64 (runL 3 ((bl s).drop q))) ∧ ∃ o, w' = w.alloc o := by
  rw [← bl_from]
  exact run_any (s.extract q s.size) 3 (by decide) w
theorem num_any (s : ByteArray) (q n : Nat) (h : n = runL 3 ((bl s).drop q)) (w : World) : Calls Tryd.prog 61 #[.string (s.extract q (q + n))] w fun e w' => e = .returned (.int .i64 (numN 0 (((bl s).drop q).take n))) ∧ ∃ o, w' = w.alloc o := by
  rw [← bl_part]
  exact number_any _ (by rw [bl_part, h]; exact dig_run s q) w
set_option maxHeartbeats 1000000 in
set_option maxRecDepth 100000 in
theorem cut_any (s : ByteArray) (w : World) : Calls Tryd.prog 38 #[.string s] w fun e w' => (1048576 < s.size ∧ e = .returned (.tuple #[.slice none 0 0, .int .i64 0, .int .i64 22]) ∧ Bel w w') ∨ (s.size ≤ 1048576 ∧ CutPost s w e w') := by
  by_cases hbig : 1048576 < s.size
  · have hd : decide ((1048576 : Int) < s.size) = true := decide_eq_true (by omega)
    refine Calls.mono (?_ : Calls _ _ _ _ fun e w' => e = .returned (.tuple #[.slice none 0 0, .int .i64 0, .int .i64 22]) ∧ Bel w w') fun e w' h => .inl ⟨hbig, h⟩
    clear hbig
    go_enter Tryd.func38, Tryd.ntmps38
    go_wp2
    refine bodyPost_ret (v := .tuple #[.slice none 0 0, .int .i64 0, .int .i64 22]) (by simp [results, Tryd.results38, go_sem]) rfl ⟨rfl, Bel.refl _⟩
  have hd : decide ((1048576 : Int) < s.size) = false := decide_eq_false (by omega)
  have hs : s.size ≤ 1048576 := by omega
  refine Calls.mono (?_ : Calls _ _ _ _ (CutPost s w)) fun e w' h => .inr ⟨hs, h⟩
  clear hbig
  go_enter Tryd.func38, Tryd.ntmps38
  go_wp2
  go_loopg [5, 6] s.size (fun gf s5 s6 wx => ∃ (pos nx : Nat) (acc : List Tok), s6 = .int .i64 nx ∧ nx ≤ s.size ∧ pos ≤ s.size ∧ wx.ownsRow w.heap.size 106 4 s5 acc.length (toksC acc) ∧
    wx.heap[w.heap.size]? = some (.stringIter s pos) ∧ Below w.heap.size w wx ∧ CutAt s pos nx acc ∧ AscAt s pos nx ∧ acc.length ≤ pos ∧ s.size ≤ pos + gf)
  case atStart =>
    exact ⟨0, 0, [], rfl, by omega, by omega, World.ownsRow_nil _ _ _ _, World.iter_heap w s 0, (Bel.refl w).alloc _, by simp [CutAt, emap_nil], asc_none _ (Nat.le_refl _), Nat.le_refl _, by omega⟩
  case round =>
    obtain ⟨pos, nx, acc, rfl, hnx0, hps, hown, hit, hbw, hC, hA, hal, hfu⟩ := hrel
    by_cases hlt : pos < s.size
    · obtain ⟨g', rfl⟩ : ∃ g', gk = g' + 1 := ⟨gk - 1, by omega⟩
      have hnx : ∀ ty, (Instr.next (.pointer (some ⟨w.heap.size, 0, none⟩)) true ty).run Tryd.prog wr = _ := fun ty => Lib.run_next_any_at wr w.heap.size s pos ty hit hlt
      have hwd := dec_pos s pos hlt
      obtain ⟨R, hR⟩ : ∃ R, (Utf8.decode s pos).1 = R := ⟨_, rfl⟩
      obtain ⟨K, hK⟩ : ∃ K, (Utf8.decode s pos).2 = K := ⟨_, rfl⟩
      have hkd := dec_kd s pos hlt
      rw [hR, hK] at hnx
      have hit2 := Lib.iterAt_heap wr w.heap.size s pos (pos + K) hit
      have hbw2 := Lib.below_iterAt hbw (k := w.heap.size) (Nat.le_refl _) s (pos + K)
      have hown2 := own_iterAt hown hit (pos + K)
      obtain ⟨W, hWd⟩ : ∃ W, wr.iterAt w.heap.size s (pos + K) = W := ⟨_, rfl⟩
      rw [hWd] at hnx hit2 hbw2 hown2
      clear hown hit hbw hWd
      have HOWN := Lib.hid hown2
      have HBW := Lib.hid hbw2
      have HIT := Lib.hid hit2
      have HC := Lib.hid hC
      have HA := Lib.hid hA
      clear hown2 hbw2 hit2 hC hA
      by_cases hsk : pos < nx
      · -- what is cut already
        have h128 := HA.out pos hlt (Nat.le_refl _) hsk
        have hdc := hkd.2 h128
        have hK1 : K = 1 := by rw [← hK, hdc]
        subst hK1
        have HC2 := Lib.hid (cut_skip HC.out hlt hsk)
        clear hR hK hdc hkd h128
        go_wp2
        go_roundg g'
        case measure => omega
        case rel => exact ⟨pos + 1, nx, acc, rfl, hnx0, by omega, HOWN.out, HIT.out, HBW.out, HC2.out, asc_next HA.out, by omega, by omega⟩
      obtain ⟨kk, hkk⟩ : ∃ kk, kd R = kk := ⟨_, rfl⟩
      have hkb : kd (s[pos]'hlt).toNat = kk := by rw [← hkd.1, hR, hkk]
      have HKB := Lib.hid hkb
      by_cases hk0 : kk = 0
      · subst hk0
        have HCB := Lib.hid (cut_bad HC.out hlt hsk hkb)
        clear hkd hkb hR hK
        have kc := fun W => kind_any R W
        simp only [hkk] at kc
        go_wp2_with (first | (go_at_call 59; (with_reducible refine (kc _).mono ?_); rintro e w1 ⟨rfl, rfl⟩))
        exact bodyPost_ret (v := .tuple #[.slice none 0 0, .int .i64 pos, .int .i64 20]) (by simp [results, Tryd.results38, go_sem]) rfl (cutPost_bad HCB.out rfl (Bel.alloc HBW.out _))
      have hb0 := kd_lt (c := (s[pos]'hlt).toNat) (by omega)
      have hdc := hkd.2 hb0
      have hK1 : K = 1 := by rw [← hK, hdc]
      subst hK1
      have kc := fun W => kind_any R W
      simp only [hkk] at kc
      clear hR hK hdc hkd hb0 hkk
      by_cases hk1 : kk = 1
      · subst hk1
        have HC2 := Lib.hid (cut_blank HC.out hlt hsk hkb)
        clear hkb
        go_wp2_with (first | (go_at_call 59; (with_reducible refine (kc _).mono ?_); rintro e w1 ⟨rfl, rfl⟩))
        go_roundg g'
        case measure => omega
        case rel => exact ⟨pos + 1, nx, acc, rfl, hnx0, by omega, (Bel.alloc (Bel.refl W) _).own HOWN.out, (Below.heap_alloc _ _ _ (Array.getElem?_eq_some_iff.1 HIT.out).1).trans HIT.out, Bel.alloc HBW.out _, HC2.out, asc_next HA.out, by omega, by omega⟩
      by_cases hk2 : kk = 2
      · subst hk2
        have HC2 := Lib.hid (cut_letter HC.out hlt hsk hkb)
        have HN1 : 1 ≤ runL 2 ((bl s).drop pos) := by rw [bl_drop s pos hlt, runL_pos hkb]; omega
        have HA2 := Lib.hid (asc_next (asc_run (s := s) (q := pos) (k := 2) (by decide)))
        have hle := run_le (s := s) (q := pos) (k := 2) (by omega)
        have rc := fun W => run2_any s pos W
        generalize runL 2 ((bl s).drop pos) = n at HC2 HN1 HA2 hle rc
        clear hkb HC HA
        go_wp2_with (first
          | (go_at_call 59; (with_reducible refine (kc _).mono ?_); rintro e w1 ⟨rfl, rfl⟩)
          | (go_at_call 60; (with_reducible refine (rc _).mono ?_); rintro e w1 ⟨rfl, o1, rfl⟩))
        go_region
        have hcl : ∀ (c0 c1 c2 c3 : Value), Box4 W (((W.alloc (.cells #[c0, c1, c2, c3] 106)).alloc o1).drew) c0 c1 c2 c3 := fun c0 c1 c2 c3 => box4 _ _ _ _ _ _ _
        have hcl' := hcl (.int .i64 1) (.string (s.extract pos (pos + n))) (.int .i64 0) (.int .i64 pos)
        clear hcl
        generalize World.drew (World.alloc (World.alloc W _) o1) = V at hcl' ⊢
        obtain ⟨hb, hc0, hc1, hc2, hc3⟩ := hcl'
        have HB := Lib.hid hb
        clear hb
        have hmx : acc.length + 1 ≤ maxLen := by unfold maxLen; omega
        have hmb : (acc.length + 1) * 40 ≤ 140737488355328 := by omega
        have hst : (⟨(((bl s).drop pos).take n).toArray⟩ : ByteArray) = s.extract pos (pos + n) := by rw [← bl_part, mk_bl]
        have HST := Lib.hid hst
        clear hst
        go_wp2_with (first
          | (at_builtin; (refine wpList_push rfl (.tmp 86) (.tmp 88) 67 rfl w.heap.size 106 _ 4 40 Tryd.underlying67 infoTok rfl (by decide) u5 _ _ rfl (HB.out.own HOWN.out) _ _ _ rfl (by simp) rfl (by simp [Value.oneCell']) hmx hmb (Nat.le_trans (Below.size HBW.out) HB.out.size) ?_); intro v3 w3 hown3 hg3 _))
        have HR3 := Lib.hid (push_rel (t := ⟨1, ((bl s).drop pos).take n, 0, pos⟩) HB.out HOWN.out HIT.out HBW.out hown3 hg3 (by rw [tokC, HST.out]))
        clear hown3 hg3
        go_roundg g'
        case measure => omega
        case rel => exact ⟨pos + 1, pos + n, _, by go_num, hle, by omega, HR3.out.1, HR3.out.2.1, HR3.out.2.2, HC2.out, HA2.out, by simp; omega, by omega⟩
      have hmx : acc.length + 1 ≤ maxLen := by unfold maxLen; omega
      have hmb : (acc.length + 1) * 40 ≤ 140737488355328 := by omega
      by_cases hk3 : kk = 3
      · subst hk3
        have HC2 := Lib.hid (cut_digit HC.out hlt hsk hkb)
        have HN1 : 1 ≤ runL 3 ((bl s).drop pos) := by rw [bl_drop s pos hlt, runL_pos hkb]; omega
        have HA2 := Lib.hid (asc_next (asc_run (s := s) (q := pos) (k := 3) (by decide)))
        have hle := run_le (s := s) (q := pos) (k := 3) (by omega)
        have rc := fun W => run3_any s pos W
        have nc := fun W => num_any s pos _ rfl W
        have hq := numN_le _ 0 (dig_run s pos) (by decide)
        generalize runL 3 ((bl s).drop pos) = n at HC2 HN1 HA2 hle rc nc hq
        generalize numN 0 (((bl s).drop pos).take n) = q at HC2 nc hq
        clear hkb HC HA
        go_wp2_with (first
          | (go_at_call 59; (with_reducible refine (kc _).mono ?_); rintro e w1 ⟨rfl, rfl⟩)
          | (go_at_call 60; (with_reducible refine (rc _).mono ?_); rintro e w1 ⟨rfl, o1, rfl⟩)
          | (go_at_call 61; (with_reducible refine (nc _).mono ?_); rintro e w1 ⟨rfl, o2, rfl⟩)
          | (at_builtin; (refine wpList_push rfl (.tmp 86) (.tmp 88) 67 rfl w.heap.size 106 _ 4 40 Tryd.underlying67 infoTok rfl (by decide) u5 _ _ rfl ((((Bel.refl W).alloc _).alloc _ |>.alloc _).own HOWN.out) _ _ _ rfl (by simp) rfl (by simp [Value.oneCell']) hmx hmb (Nat.le_trans (Below.size HBW.out) (Bel.size (((Bel.refl W).alloc _).alloc _ |>.alloc _))) ?_); intro v3 w3 hown3 hg3 _))
        have HR3 := Lib.hid (push_rel (t := ⟨2, [], q, pos⟩) (((Bel.refl W).alloc _).alloc _ |>.alloc _) HOWN.out HIT.out HBW.out hown3 hg3 rfl)
        clear hown3 hg3
        go_roundg g'
        case measure => omega
        case rel => exact ⟨pos + 1, pos + n, _, by go_num, hle, by omega, HR3.out.1, HR3.out.2.1, HR3.out.2.2, HC2.out, HA2.out, by simp; omega, by omega⟩
      by_cases hk4 : kk = 4
      · subst hk4
        have rc := fun W => run3_any s (pos + 1) W
        by_cases hr0 : runL 3 ((bl s).drop (pos + 1)) = 0
        · have HCB := Lib.hid (cut_minus0 HC.out hlt hsk hkb hr0)
          rw [hr0] at rc
          have rc' : ∀ W, Calls Tryd.prog 60 #[.string (s.extract (pos + 1) s.size), .int .i64 3] W fun e w' => e = .returned (.int .i64 0) ∧ ∃ o, w' = W.alloc o := rc
          clear hkb HC HA hr0 rc
          go_wp2_with (first
            | (go_at_call 59; (with_reducible refine (kc _).mono ?_); rintro e w1 ⟨rfl, rfl⟩)
            | (go_at_call 60; (with_reducible refine (rc' _).mono ?_); rintro e w1 ⟨rfl, o1, rfl⟩))
          exact bodyPost_ret (v := .tuple #[.slice none 0 0, .int .i64 pos, .int .i64 20]) (by simp [results, Tryd.results38, go_sem]) rfl (cutPost_bad HCB.out rfl ((Bel.alloc HBW.out _).alloc _))
        · have HC2 := Lib.hid (cut_minus HC.out hlt hsk hkb hr0)
          have HA2 : Hid (AscAt s (pos + 1) (pos + 1 + runL 3 ((bl s).drop (pos + 1)))) := asc_run (s := s) (q := pos + 1) (k := 3) (by decide)
          have hle := run_le (s := s) (q := pos + 1) (k := 3) (by omega)
          have nc := fun W => num_any s (pos + 1) _ rfl W
          have hq := numN_le _ 0 (dig_run s (pos + 1)) (by decide)
          generalize runL 3 ((bl s).drop (pos + 1)) = n at HC2 HA2 hle rc nc hq hr0
          generalize numN 0 (((bl s).drop (pos + 1)).take n) = q at HC2 nc hq
          have hn0 : (n == 0) = false := by simpa using hr0
          rw [show pos + (n + 1) = pos + 1 + n by omega] at HC2
          clear hkb HC HA
          go_wp2_with (first
            | (go_at_call 59; (with_reducible refine (kc _).mono ?_); rintro e w1 ⟨rfl, rfl⟩)
            | (go_at_call 60; (with_reducible refine (rc _).mono ?_); rintro e w1 ⟨rfl, o1, rfl⟩)
            | (go_at_call 61; (with_reducible refine (nc _).mono ?_); rintro e w1 ⟨rfl, o2, rfl⟩)
            | (at_builtin; (refine wpList_push rfl (.tmp 86) (.tmp 88) 67 rfl w.heap.size 106 _ 4 40 Tryd.underlying67 infoTok rfl (by decide) u5 _ _ rfl ((((Bel.refl W).alloc _).alloc _ |>.alloc _).own HOWN.out) _ _ _ rfl (by simp) rfl (by simp [Value.oneCell']) hmx hmb (Nat.le_trans (Below.size HBW.out) (Bel.size (((Bel.refl W).alloc _).alloc _ |>.alloc _))) ?_); intro v3 w3 hown3 hg3 _))
          have HR3 := Lib.hid (push_rel (t := ⟨2, [], -(q : Int), pos⟩) (((Bel.refl W).alloc _).alloc _ |>.alloc _) HOWN.out HIT.out HBW.out hown3 hg3 rfl)
          clear hown3 hg3
          go_roundg g'
          case measure => omega
          case rel => exact ⟨pos + 1, pos + 1 + n, _, by go_num, hle, by omega, HR3.out.1, HR3.out.2.1, HR3.out.2.2, HC2.out, HA2.out, by simp; omega, by omega⟩
      have hk5 : kk = 5 := by
        have := HKB.out
        unfold kd at this
        (repeat' split at this) <;> omega
      subst hk5
      have HC2 := Lib.hid (cut_line HC.out hlt hsk hkb)
      clear hkb HC HA
      go_wp2_with (first
        | (go_at_call 59; (with_reducible refine (kc _).mono ?_); rintro e w1 ⟨rfl, rfl⟩)
        | (at_builtin; (refine wpList_push rfl (.tmp 86) (.tmp 88) 67 rfl w.heap.size 106 _ 4 40 Tryd.underlying67 infoTok rfl (by decide) u5 _ _ rfl (((Bel.refl W).alloc _).own HOWN.out) _ _ _ rfl (by simp) rfl (by simp [Value.oneCell']) hmx hmb (Nat.le_trans (Below.size HBW.out) (Bel.size ((Bel.refl W).alloc _))) ?_); intro v3 w3 hown3 hg3 _))
      have HR3 := Lib.hid (push_rel (t := ⟨3, [], 0, pos⟩) ((Bel.refl W).alloc _) HOWN.out HIT.out HBW.out hown3 hg3 rfl)
      clear hown3 hg3
      go_roundg g'
      case measure => omega
      case rel => exact ⟨pos + 1, pos + 1, _, by go_num, by omega, by omega, HR3.out.1, HR3.out.2.1, HR3.out.2.2, HC2.out, asc_none _ (Nat.le_refl _), by simp; omega, by omega⟩
    · have hnx := fun ty => Lib.run_next_end_at (P := Tryd.prog) wr w.heap.size s pos ty hit hlt
      have HCE := Lib.hid (cut_end hC hlt)
      have HOWN := Lib.hid hown
      have HBW := Lib.hid hbw
      clear hown hbw hC hA hit
      go_wp2
      exact bodyPost_ret (v := .tuple #[_, .int .i64 0, .int .i64 0]) (by simp [results, Tryd.results38, go_sem]) rfl (cutPost_ok HCE.out rfl HOWN.out HBW.out)
end Go.Proofs.YtefajplbgmikdaaDoor
