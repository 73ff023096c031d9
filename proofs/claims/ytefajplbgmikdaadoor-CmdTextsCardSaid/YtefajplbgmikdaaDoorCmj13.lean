/-
  The walk of a builder's WriteString.
-/
import Derived.Test.YtefajplbgmikdaaDoorCmj12
import Derived.Laws.Externs
import Derived.Test.YtefajplbgmikdaaDoorCmj10
namespace Go.Proofs.YtefajplbgmikdaaDoor
open Go.RowKit

abbrev Bd (B b : Nat) (l : List UInt8) (w : World) : Prop := Lib.IsBuilder 76 5 B b (Lib.byteCells l) w
theorem infoBd : (Tryd.prog.info? 76).map (·.size) = some 2 := by kernel_rfl
theorem infoU8 : (Tryd.prog.info? 5).map (fun i => (i.zero, i.size, i.bytes)) = some (some (.int .u8 0), 1, 1) := by kernel_rfl
theorem liesBd : liesAt Tryd.prog Tryd.prog.depth 76 (2 / Tryd.prog.cellsOf 76) 0 76 1 = true := by kernel_rfl
set_option maxHeartbeats 1000000 in
set_option maxRecDepth 100000 in
theorem copyCheck_any (B b : Nat) (bs : List Value) (w : World) (h : Lib.IsBuilder 76 5 B b bs w) :
    Calls Tryd.prog 64 #[.pointer (some ⟨b, 0, none⟩)] w fun e w' => e = .returned (.tuple #[]) ∧ Lib.BuilderAt 76 5 B b (.pointer (some ⟨b, 0, none⟩)) bs w' ∧ Below B w w' := by
  obtain ⟨j, hj, hjs⟩ := Option.map_eq_some_iff.1 infoBd
  rcases h with h | h
  · have c0 := h.cell0
    have f0 := h.frozen0
    have hu := Lib.run_to_unsafe (P := Tryd.prog) w ⟨b, 0, none⟩ Tryd.underlying74 Tryd.underlying149 hj (by rw [hjs]; decide) h.shape (Nat.zero_lt_succ 1)
    have hf := Lib.run_from_unsafe (P := Tryd.prog) w ⟨b, 0, none⟩ Tryd.underlying149 Tryd.underlying74 hj h.shape liesBd
    have H := Lib.hid h
    clear h
    go_enter Tryd.func64, Tryd.ntmps64
    go_wp2
    rw [run_callFunc_extern Tryd.func83 (by kernel_rfl) (by kernel_rfl) (by kernel_rfl) (e := Extern.AbiNoEscape.same) (by kernel_rfl)]
    rw [Lib.run_noEscape]
    simp only [Result.andThen]
    rw [Oper.upon_value]
    go_wp2
    refine bodyPost_end (v := .tuple #[]) (by simp [results, Tryd.results64, go_sem]) rfl ?_
    exact ⟨rfl, H.out.used _, (Below.refl B w).setCell (p := ⟨b, 0, none⟩) H.out.1 _⟩
  · have c0 := h.cell0
    have H := Lib.hid h
    have hn := Lib.run_neq_ptr_same (P := Tryd.prog) w (te := 76) (tp := 74) ⟨b, 0, none⟩ Tryd.underlying74 hj
    clear h
    go_enter Tryd.func64, Tryd.ntmps64
    go_wp2
    refine bodyPost_end (v := .tuple #[]) (by simp [results, Tryd.results64, go_sem]) rfl ?_
    exact ⟨rfl, H.out, Below.refl B w⟩
theorem own_form {w : World} {base e size n : Nat} {v : Value} {xs : List Value} (h : w.ownsRow base e size v n xs) : ∃ ao cap, v = .slice ao n cap := by
  obtain ⟨_, h0 | ⟨g, cap, cur, e, _⟩⟩ := h
  · exact ⟨none, 0, by rw [h0.1, h0.2]⟩
  · exact ⟨_, cap, e⟩
theorem strCells_bytes (s : ByteArray) : Lib.strCells s = Lib.byteCells (bl s) := by
  simp [Lib.strCells, Lib.byteCells, bl]
set_option maxHeartbeats 1000000 in
set_option maxRecDepth 100000 in
theorem write_any (B b : Nat) (l : List UInt8) (s : ByteArray) (w : World) (h : Bd B b l w) (hlen : l.length + s.size ≤ 1000000000) (hBw : B ≤ w.heap.size) :
    Calls Tryd.prog 41 #[.pointer (some ⟨b, 0, none⟩), .string s] w fun e w' => e = .returned (.tuple #[.int .i64 s.size, .nilIface]) ∧ Bd B b (l ++ bl s) w' ∧ Below B w w' := by
  obtain ⟨i0, hi, hz0, hz1, hz2⟩ := info_parts infoU8
  have HCC := Lib.hid (copyCheck_any B b _ w h)
  clear h
  go_enter Tryd.func41, Tryd.ntmps41
  go_upto_region 2 with (first
    | (go_at_call 64; (with_reducible refine (HCC.out).mono ?_); rintro e w2 ⟨rfl, hat, hb2⟩))
  obtain ⟨hB, v, hbk, hown, hne⟩ := hat
  have x0 : w2.cell? ⟨b, 0, none⟩ = some (.pointer (some ⟨b, 0, none⟩)) := by rw [heap_cell hbk]; rfl
  have x1 : w2.cell? ⟨b, 1, none⟩ = some v := by rw [heap_cell hbk]; rfl
  have hll : (Lib.byteCells l).length = l.length := by simp [Lib.byteCells]
  rw [hll] at hown
  have hbs := hb2.size
  have HBK := Lib.hid hbk
  have HOWN := Lib.hid hown
  have HB2 := Lib.hid hb2
  clear hbk hown hb2
  go_upto_region 3 with (first
    | (at_builtin; (refine Lib.wpList_append_own_string _ rfl (.tmp 12) (.tmp 13) 71 9 rfl B 5 i0 Tryd.underlying71 Tryd.underlying9 hi hz0 hz1 hz2 v l.length (Lib.byteCells l) rfl HOWN.out s rfl (by unfold maxLen; omega) (by omega) (by omega) ?_); intro v3 w3 hown3 hg3 _; (obtain ⟨ao, cap, rfl⟩ := own_form hown3); have hb3 : w3.heap[b]? = some (.cells #[.pointer (some ⟨b, 0, none⟩), v] 76 (0, 0)) := by { rw [hg3.block b (heap_lt HBK.out) (fun e => hne e.symm)]; exact HBK.out }; have d1 : w3.cell? ⟨b, 1, none⟩ = some v := by { rw [heap_cell hb3]; rfl }; have f1 : w3.frozen? ⟨b, 1, none⟩ = false := heap_frozen hb3 1))
  go_wp2
  refine bodyPost_ret (v := .tuple #[.int .i64 s.size, .nilIface]) (by simp [results, Tryd.results41, go_sem]) rfl ?_
  refine ⟨rfl, .inr (Lib.BuilderAt.put hB hb3 (bs' := Lib.byteCells (l ++ bl s)) ?_ (by decide)), ((HB2.out.grown hg3 (by omega) (fun k hk => (HOWN.out.lt k hk).1)).setCell (p := ⟨b, 1, none⟩) hB _)⟩
  have e1 : Lib.byteCells (l ++ bl s) = Lib.byteCells l ++ Lib.strCells s := by rw [strCells_bytes]; simp [Lib.byteCells]
  have e2 : (Lib.byteCells (l ++ bl s)).length = l.length + s.size := by simp [Lib.byteCells, bl]
  rw [e2, e1]
  exact hown3
end Go.Proofs.YtefajplbgmikdaaDoor

/-
  What the walk of Text leans on: a command's words, their rows, the builder.
-/
namespace Go.Proofs.YtefajplbgmikdaaDoor
open Go.RowKit

theorem words_range {first : Bool} {c : Cm} (hg : goodK first c = true) (hw : wordsK c.kind.toNat ≠ []) : ∃ v : Nat, c.n = [(v : Int)] ∧ v < (wordsK c.kind.toNat).length := by
  obtain ⟨_, _, hk⟩ := good_kinds hg
  rcases hk with ⟨_, _, _, h0⟩ | ⟨hp, hpath, hv, _⟩
  · exact absurd h0 hw
  · obtain ⟨v, hcv, _⟩ := hv hw
    obtain ⟨k, hkk⟩ : ∃ k, c.kind.toNat = k := ⟨_, rfl⟩
    rw [hkk] at hw hp ⊢
    unfold goodK at hg
    split at hg
    · cases hg
    rw [hkk, if_neg (by rw [hp]; simp), if_neg (by simp [hpath])] at hg
    have hd : dashK k = false := by
      by_cases h : dashK k = true
      · exact absurd (dash_words h).1 hw
      · simpa using h
    rw [if_neg (by simp [hd]), if_neg (by simp [hd, hw, hcv]), hcv] at hg
    simp only [Bool.and_eq_true] at hg
    have h3 := hg.1
    have hk3 : k = 5 ∨ k = 9 ∨ k = 10 := by
      unfold wordsK at hw
      by_cases e5 : k = 5
      · exact .inl e5
      · by_cases e9 : k = 9
        · exact .inr (.inl e9)
        · by_cases e10 : k = 10
          · exact .inr (.inr e10)
          · rw [if_neg e5, if_neg e9, if_neg e10] at hw
            exact absurd rfl hw
    refine ⟨v.toNat, ?_, ?_⟩
    · rcases hk3 with rfl | rfl | rfl <;> (simp [spansK] at h3; rw [hcv, Int.toNat_of_nonneg (by omega)])
    · rcases hk3 with rfl | rfl | rfl
      · simp [spansK] at h3
        have : (wordsK 5).length = 2 := rfl
        omega
      · simp [spansK] at h3
        have : (wordsK 9).length = 3 := rfl
        omega
      · simp [spansK] at h3
        have : (wordsK 10).length = 3 := rfl
        omega
theorem word_cells {w : World} {a b c k : Nat} (h : Wrd w a b c) (hw : wordsK k ≠ []) : ∃ g, wordsV a b c k = .slice (some ⟨g, 0, none⟩) (wordsK k).length (wordsK k).length ∧ ∀ j, j < (wordsK k).length → w.cell? ⟨g, j, none⟩ = some (.string ⟨((wordsK k).getD j []).toArray⟩) := by
  have hk3 : k = 5 ∨ k = 9 ∨ k = 10 := by
    unfold wordsK at hw
    by_cases e5 : k = 5
    · exact .inl e5
    · by_cases e9 : k = 9
      · exact .inr (.inl e9)
      · by_cases e10 : k = 10
        · exact .inr (.inr e10)
        · rw [if_neg e5, if_neg e9, if_neg e10] at hw
          exact absurd rfl hw
  rcases hk3 with rfl | rfl | rfl
  · refine ⟨a, rfl, fun j hj => ?_⟩
    rw [heap_cell h.a]
    have : j < 2 := hj
    rcases (by omega : j = 0 ∨ j = 1) with rfl | rfl <;> rfl
  · refine ⟨b, rfl, fun j hj => ?_⟩
    rw [heap_cell h.b]
    have : j < 3 := hj
    rcases (by omega : j = 0 ∨ j = 1 ∨ j = 2) with rfl | rfl | rfl <;> rfl
  · refine ⟨c, rfl, fun j hj => ?_⟩
    rw [heap_cell h.c]
    have : j < 3 := hj
    rcases (by omega : j = 0 ∨ j = 1 ∨ j = 2) with rfl | rfl | rfl <;> rfl
/-- The words of a command's line. -/
def wordsC (c : Cm) : List (List UInt8) := nameK c.kind.toNat :: (c.n.map (wordC c.kind.toNat) ++ if pathK c.kind.toNat = true then [textS c.path] else [])
theorem join_cons (x : List UInt8) : ∀ (xs : List (List UInt8)), Lib.join (x :: xs) [32] = x ++ xs.flatMap fun y => 32 :: y := by
  intro xs
  induction xs generalizing x with
  | nil => simp [Lib.join, List.intercalate]
  | cons y ys ih =>
    have e : Lib.join (x :: y :: ys) [32] = x ++ [32] ++ Lib.join (y :: ys) [32] := by simp [Lib.join, List.intercalate]
    rw [e, ih y]
    simp
theorem line_join (c : Cm) : lineC c = Lib.join (wordsC c) [32] ++ [10] := by
  unfold lineC wordsC
  rw [join_cons]
  congr 1
  rw [List.flatMap_append, List.flatMap_map]
  by_cases hp : pathK c.kind.toNat = true
  · rw [if_pos hp, if_pos hp]; simp
  · rw [if_neg hp, if_neg hp]; simp
/-- A row that was built with one string. -/
theorem wrow_one {w : World} {base : Nat} {s : List UInt8} (hb : base ≤ w.heap.size) : WRow (w.alloc (.cells #[strV s] 9)) base (.slice (some ⟨w.heap.size, 0, none⟩) 1 1) [s] := by
  refine ⟨rfl, .inr ⟨w.heap.size, 1, #[strV s], rfl, hb, heap_alloc_new _ _, Nat.le_refl _, by decide, rfl, rfl⟩⟩
theorem wrow_push {w0 V V' : World} {v v' : Value} {ws : List (List UInt8)} {b : List UInt8} (h : WRow V w0.heap.size v ws) (hb : Bel w0 V) (ho : V'.ownsRow w0.heap.size 9 1 v' (ws.length + 1) (ws.map strV ++ [strV b])) (hg : V.grownBy V' v.ownBlock) : WRow V' w0.heap.size v' (ws ++ [b]) ∧ Bel w0 V' := by
  refine ⟨?_, But.bel hb hg (fun k hk => (h.lt k hk).1)⟩
  unfold WRow
  rw [List.length_append, List.map_append]
  exact ho
theorem bd_bel {w w' : World} {B b : Nat} {l : List UInt8} (h : Bd B b l w) (hb : Bel w w') : Bd B b l w' := by
  rcases h with ⟨hB, v, h1, h2, h3⟩ | ⟨hB, v, h1, h2, h3⟩
  · exact .inl ⟨hB, v, hb.heap h1, Bel.own hb h2, h3⟩
  · exact .inr ⟨hB, v, hb.heap h1, Bel.own hb h2, h3⟩
theorem bd_new (w : World) (_ : True) : Bd w.heap.size w.heap.size [] (w.alloc (.cells #[.pointer none, .slice none 0 0] 76)) :=
  .inl ⟨Nat.le_refl _, .slice none 0 0, heap_alloc_new _ _, World.ownsRow_nil _ _ _ _, by simp [Value.ownBlock]⟩
theorem textC_snoc (l : List Cm) (k : Nat) (c : Cm) (h : l[k]? = some c) : textC (l.take (k + 1)) = textC (l.take k) ++ lineC c := by
  unfold textC
  rw [List.take_add_one, h]
  simp
theorem textC_take (l : List Cm) (k : Nat) : (textC (l.take k)).length ≤ (textC l).length := by
  conv => rhs; rw [← List.take_append_drop k l]
  unfold textC
  rw [List.flatMap_append, List.length_append]
  omega
end Go.Proofs.YtefajplbgmikdaaDoor

/-
  The walk of Text.
-/
namespace Go.Proofs.YtefajplbgmikdaaDoor
open Go.RowKit

def CText (l : List Cm) (w : World) (e : Ending) (w' : World) : Prop :=
  Bel w w' ∧ e = .returned (.tuple #[if goodC l = true then strV (textC l) else .string ⟨#[]⟩, .int .i64 (if goodC l = true then 0 else 11)])
set_option maxHeartbeats 2000000 in
set_option maxRecDepth 100000 in
theorem textCmds_any (l : List Cm) (v : Value) (w : World) (h : CmdRow w v l) (hok : ∀ c ∈ l, Ok1 c) (hn : l.length ≤ 1000000000) (hsz : goodC l = true → (textC l).length ≤ 500000000) (ht : Tab w) :
    Calls Tryd.prog 24 #[v] w (CText l w) := by
  have HGO := Lib.hid (goodCmds_any l v w h hok hn)
  have H := Lib.hid h
  have HT := Lib.hid ht
  obtain ⟨p, cp, rfl, _, _⟩ := h
  go_enter Tryd.func24, Tryd.ntmps24
  cases hg : goodC l with
  | false =>
    rw [hg] at HGO
    have HE : Hid (∀ w', Bel w w' → CText l w (.returned (.tuple #[.string ⟨#[]⟩, .int .i64 11])) w') := fun w' hb => ⟨hb, by rw [hg]; rfl⟩
    clear hg hok hsz ht
    go_wp2_with (first
      | (go_at_call 26; (with_reducible refine (HGO.out).mono ?_); rintro e w2 ⟨hb2, rfl⟩; have HB2 := Lib.hid hb2; clear hb2))
    go_ret2
    exact HE.out _ HB2.out
  | true =>
    rw [hg] at HGO
    have hgl := (good_L hg).2.1
    have HALL : Hid (∀ c ∈ l, ∃ f, goodK f c = true) := goodL_of hgl
    have HSZ := Lib.hid (hsz hg)
    have HE : Hid (∀ w' b, b = textC l → Bel w w' → CText l w (.returned (.tuple #[strV b, .int .i64 0])) w') := fun w' b e hb => ⟨hb, by rw [hg, e]; rfl⟩
    clear hg hok hsz ht hgl
    go_upto_region 4 with (first
      | (go_at_call 26; (with_reducible refine (HGO.out).mono ?_); rintro e w1 ⟨hb1, rfl⟩; have HB1 := Lib.hid hb1; clear hb1))
    have HBD : Hid (Bd w1.heap.size w1.heap.size (textC (l.take 0)) (w1.alloc (.cells #[.pointer none, .slice none 0 0] 76))) := bd_new w1 trivial
    have HBX : Hid (Bel w1 (w1.alloc (.cells #[.pointer none, .slice none 0 0] 76))) := (Bel.refl w1).alloc _
    generalize w1.alloc (.cells #[.pointer none, .slice none 0 0] 76) = w2 at HBD HBX ⊢
    obtain ⟨BB, hBB⟩ : ∃ BB, w1.heap.size = BB := ⟨_, rfl⟩
    rw [hBB] at HBD ⊢
    go_wp2
    go_loopg [18] l.length (fun gf s18 wx => ∃ k : Nat, s18 = .int .i64 k ∧ k ≤ l.length ∧ l.length ≤ k + gf ∧ Bd BB BB (textC (l.take k)) wx ∧ Bel w1 wx)
    case atStart => exact ⟨0, rfl, Nat.zero_le _, by omega, HBD.out, HBX.out⟩
    case round =>
      obtain ⟨k, rfl, hkl, hkg, hbd, hbl⟩ := hrel
      have HBDK := Lib.hid hbd
      have HBL := Lib.hid hbl
      clear hbd hbl HBD HBX
      by_cases hk : k < l.length
      · obtain ⟨gk', rfl⟩ : ∃ g, gk = g + 1 := ⟨gk - 1, by omega⟩
        obtain ⟨c, hc⟩ : ∃ c, l[k]? = some c := ⟨_, List.getElem?_eq_getElem hk⟩
        have hgoo := HALL.out c (List.mem_of_getElem? hc)
        obtain ⟨p', cp', he, _, hrow⟩ := H.out
        simp only [Value.slice.injEq] at he
        obtain ⟨rfl, _, rfl⟩ := he
        obtain ⟨b, o, nv, pv, rfl, ⟨q0, q1, q2, q3⟩, hnum, hseg, h6⟩ := hrow k c hc
        have hbw := HB1.out.trans HBL.out
        replace q0 := hbw.cell q0
        replace q1 := hbw.cell q1
        replace q2 := hbw.cell q2
        replace q3 := hbw.cell q3
        obtain ⟨na, nc, hnv⟩ := num_form hnum
        obtain ⟨pa, pc, hpv⟩ := segrow_form hseg
        subst hnv hpv
        have HTX := Lib.hid (textC_snoc l k c hc)
        have HTK : Hid ((textC (l.take (k + 1))).length ≤ 500000000) := Nat.le_trans (textC_take l (k + 1)) HSZ.out
        have HNUM := Lib.hid (hnum.bel hbw)
        have HSEG := Lib.hid (hseg.bel hbw)
        have H6 := Lib.hid h6
        have HTAB := Lib.hid (hbw.tab HT.out)
        have HG := Lib.hid hgoo
        obtain ⟨kind, n, path, place⟩ := c
        dsimp only at q0 q1 q2 q3 HNUM HSEG H6
        have hkk : 1 ≤ kind ∧ kind ≤ 15 := by
          obtain ⟨f, hf⟩ := hgoo
          have := (good_kinds hf).1
          exact ⟨this.1, this.2.1⟩
        obtain ⟨kn, rfl⟩ : ∃ kn : Nat, kind = kn := ⟨kind.toNat, by omega⟩
        have hk16 : kn < 16 := by omega
        clear hc hrow hnum hseg h6 hbw hgoo
        obtain ⟨V, hV⟩ : ∃ V, wr.alloc (.cells #[.int .i64 kn, .slice na n.length nc, .slice pa path.length pc, .int .i64 place] 73) = V := ⟨_, rfl⟩
        have hWV : Bel wr V := hV ▸ (Bel.refl wr).alloc _
        have hTV : V.heap[wr.heap.size]? = some (.cells #[.int .i64 kn, .slice na n.length nc, .slice pa path.length pc, .int .i64 place] 73 (0, 0)) := hV ▸ heap_alloc_new _ _
        have v0 : V.cell? ⟨wr.heap.size, 0, none⟩ = some (.int .i64 kn) := by rw [heap_cell hTV]; rfl
        have v1 : V.cell? ⟨wr.heap.size, 1, none⟩ = some (.slice na n.length nc) := by rw [heap_cell hTV]; rfl
        have v2 : V.cell? ⟨wr.heap.size, 2, none⟩ = some (.slice pa path.length pc) := by rw [heap_cell hTV]; rfl
        have HBV := Lib.hid hWV
        clear hWV hTV
        go_upto_region 7 with fail
        go_cut [7] from 22 to 68 (fun s7 wx => ∃ KB a b c, s7 = .pointer (some ⟨KB, 0, none⟩) ∧ KBox wx KB a b c kn ∧ Bel V wx)
        case first =>
          have e0 : V.drew.cell? ⟨wr.heap.size, 0, none⟩ = some (.int .i64 kn) := v0
          have e4 : ∀ o, (V.alloc o).cell? ⟨wr.heap.size, 0, none⟩ = some (.int .i64 kn) := fun o => ((Bel.refl V).alloc o).cell v0
          have e1 : ∀ o, (V.alloc o).drew.cell? ⟨wr.heap.size, 0, none⟩ = some (.int .i64 kn) := e4
          have e5 : ∀ o, (V.alloc o).drew.heap[V.heap.size]? = some o := fun o => heap_alloc_new V o
          go_region_law (first
            | (go_simp; go_at_call 40; (with_reducible refine (kinds_any _).mono ?_); rintro e w3 ⟨hb3, a, b, c', rfl, hwrd⟩; have hix := kind_at a b c' kn hk16; (obtain ⟨wp, wl, wm, hwv⟩ := wordsV_form a b c' kn); rw [hwv] at hix; (first
                | (have e2 := hb3.cell e0; have e3 : ∀ o, (w3.alloc o).cell? ⟨wr.heap.size, 0, none⟩ = some (.int .i64 kn) := fun o => ((Bel.refl w3).alloc o).cell e2)
                | (have e2 := hb3.cell (e1 _); have hz := hb3.heap (e5 _); have z0 := heap_cell hz 0; have z1 := heap_cell hz 1; have z2 := heap_cell hz 2; have z3 := heap_cell hz 3; have z4 := heap_cell hz 4; have zf := heap_frozen hz)); generalize (kindsV a b c').toArray = KA at hix ⊢))
          all_goals
            go_wp2
            go_meet
            first
              | (have h9 := kbox_new (W := V) ((Bel.refl V).drew.trans hb3) hwrd hwv; exact ⟨_, _, _, _, rfl, h9.1, h9.2⟩)
              | (have h9 := kbox_set (W := V) (((Bel.refl V).alloc _).drew.trans hb3) (Nat.le_refl _) rfl hz hwrd hwv; exact ⟨_, _, _, _, rfl, h9.1, h9.2⟩)
        case rest =>
        obtain ⟨KB, ka, kb, kc, rfl, hkb, hbk⟩ := hcut
        have x1 := hbk.cell v1
        have x2 := hbk.cell v2
        have z0 : wc.cell? ⟨KB, 0, none⟩ = some (.string ⟨(nameK kn).toArray⟩) := by rw [heap_cell hkb.1]; rfl
        have z2 : wc.cell? ⟨KB, 2, none⟩ = some (wordsV ka kb kc kn) := by rw [heap_cell hkb.1]; rfl
        have z3 : wc.cell? ⟨KB, 3, none⟩ = some (.bool (pathK kn)) := by rw [heap_cell hkb.1]; rfl
        have HKB := Lib.hid hkb
        have HBK := Lib.hid (HBV.out.trans hbk)
        clear hkb hbk v0 v1 v2 q0 q1 q2 q3 hV
        obtain ⟨T, hT⟩ : ∃ T, wr.heap.size = T := ⟨_, rfl⟩
        rw [hT] at x1 x2 ⊢
        clear hT
        go_upto_region 9 with fail
        have HX : Hid (Bel wc (wc.alloc (.cells #[.string ⟨(nameK kn).toArray⟩] 9))) := (Bel.refl wc).alloc _
        have HWR : Hid (WRow (wc.alloc (.cells #[.string ⟨(nameK kn).toArray⟩] 9)) wc.heap.size (.slice (some ⟨wc.heap.size, 0, none⟩) 1 1) [nameK kn]) := wrow_one (Nat.le_refl _)
        generalize wc.alloc (.cells #[.string ⟨(nameK kn).toArray⟩] 9) = X at HX HWR ⊢
        have X1 := HX.out.cell x1
        go_wp2
        go_loopg [8, 32] n.length (fun gf s8 s32 wx => ∃ j : Nat, s32 = .int .i64 j ∧ j ≤ n.length ∧ n.length ≤ j + gf ∧ WRow wx wc.heap.size s8 (nameK kn :: (n.take j).map (wordC kn)) ∧ Bel wc wx)
        case atStart => exact ⟨0, rfl, Nat.zero_le _, by omega, HWR.out, HX.out⟩
        case round =>
          obtain ⟨j, rfl, hjn, hjg, hwd, hbc⟩ := hrel
          have HWD := Lib.hid hwd
          have HBC := Lib.hid hbc
          have HN : Hid (n.length ≤ 17) := by
            obtain ⟨f, hf⟩ := HG.out
            obtain ⟨_, _, hh⟩ := good_kinds hf
            unfold Hid
            rcases hh with ⟨_, h0, _⟩ | ⟨_, _, _, h17⟩
            · dsimp only at h0; rw [h0]; simp
            · exact h17
          have hnl : n.length ≤ 17 := HN.out
          clear hwd hbc
          by_cases hj : j < n.length
          · obtain ⟨gj, rfl⟩ : ∃ g, gk = g + 1 := ⟨gk - 1, by omega⟩
            obtain ⟨x, hx⟩ : ∃ x, n[j]? = some x := ⟨_, List.getElem?_eq_getElem hj⟩
            obtain ⟨nb, no, nc', he, _, qn⟩ := HNUM.out.at hx
            simp only [Value.slice.injEq] at he
            obtain ⟨rfl, _, rfl⟩ := he
            have hsm : Sm x := by
              obtain ⟨f, hf⟩ := HG.out
              exact (good_kinds hf).2.1 x (List.mem_of_getElem? hx)
            unfold Sm at hsm
            have x0 : wr.cell? ⟨nb, no + j, none⟩ = some (.int .i64 x) := HBC.out.cell (HBK.out.cell qn)
            have hll : (nameK kn :: (n.take j).map (wordC kn)).length ≤ 18 := by have := HN.out; simp; omega
            have hmx : (nameK kn :: (n.take j).map (wordC kn)).length + 1 ≤ maxLen := by unfold maxLen; omega
            have hmb : ((nameK kn :: (n.take j).map (wordC kn)).length + 1) * 16 ≤ 140737488355328 := by omega
            have HTJ : Hid ((nameK kn :: (n.take j).map (wordC kn)) ++ [wordC kn x] = nameK kn :: (n.take (j + 1)).map (wordC kn)) := by
              unfold Hid
              rw [List.take_add_one, hx]
              simp
            by_cases hw : wordsK kn = []
            · have hwv := wordsV_nil (a := ka) (b := kb) (c := kc) hw
              rw [hwv] at z2
              have k2 := HBC.out.cell z2
              have HWC : Hid (wordC kn x = Lib.itoa x) := by unfold Hid wordC; rw [if_pos hw]
              have HF := fun V ht => Lib.hid (fmt_any x (by omega) (by omega) V ht)
              have HTW : Hid (∀ V, Bel wc V → Tab V) := fun V hb => (HBK.out.trans hb).tab HTAB.out
              clear hx qn hw hwv
              go_wp2_with (first
                | (go_at_call 30; (with_reducible refine ((HF _ (HTW.out _ HBC.out)).out).mono ?_); rintro e wf ⟨rfl, hbf⟩; have HBF := Lib.hid (HBC.out.trans hbf); have HWF := Lib.hid (HWD.out.bel hbf); clear hbf)
                | (at_builtin; (refine wpList_push rfl (.tmp 47) (.tmp 50) 44 rfl wc.heap.size 9 _ 1 16 Tryd.underlying44 infoStr rfl (by decide) u8 (nameK kn :: (n.take j).map (wordC kn)).length ((nameK kn :: (n.take j).map (wordC kn)).map strV) rfl HWF.out _ _ _ rfl (by simp) rfl (by simp [Value.oneCell']) hmx hmb HBF.out.size ?_); intro v6 w6 hown6 hg6 _; have HP6 := Lib.hid (wrow_push (b := Lib.itoa x) HWF.out HBF.out hown6 hg6); clear hown6 hg6))
              go_roundg gj
              case measure => omega
              case rel => exact ⟨j + 1, rfl, by omega, by omega, by rw [← HTJ.out, HWC.out]; exact HP6.out.1, HP6.out.2⟩
            · obtain ⟨v, hcv, hvl⟩ : ∃ v : Nat, n = [(v : Int)] ∧ v < (wordsK kn).length := by
                obtain ⟨f, hf⟩ := HG.out
                have := words_range hf (by dsimp only; rw [Int.toNat_natCast]; exact hw)
                dsimp only at this
                rw [Int.toNat_natCast] at this
                exact this
              obtain ⟨wg, hwv, hcell⟩ := word_cells HKB.out.2 hw
              rw [hwv] at z2
              have k2 := HBC.out.cell z2
              have hxv : x = (v : Int) := by
                have h0 : j = 0 := by rw [hcv] at hj; simpa using hj
                rw [hcv, h0] at hx
                simpa using hx.symm
              subst hxv
              have kv := HBC.out.cell (hcell v hvl)
              have HWC : Hid (wordC kn (v : Int) = (wordsK kn).getD v []) := by unfold Hid wordC; rw [if_neg hw, Int.toNat_natCast]
              obtain ⟨wv, hwv0⟩ : ∃ s, (wordsK kn).getD v [] = s := ⟨_, rfl⟩
              rw [hwv0] at kv HWC
              have hvl2 : (v : Int) < ((wordsK kn).length : Int) := by omega
              clear hx qn hw hwv hcv hcell hwv0
              go_wp2_with (first
                | (at_builtin; (refine wpList_push rfl (.tmp 39) (.tmp 45) 44 rfl wc.heap.size 9 _ 1 16 Tryd.underlying44 infoStr rfl (by decide) u8 (nameK kn :: (n.take j).map (wordC kn)).length ((nameK kn :: (n.take j).map (wordC kn)).map strV) rfl HWD.out _ _ _ rfl (by simp) rfl (by simp [Value.oneCell']) hmx hmb HBC.out.size ?_); intro v6 w6 hown6 hg6 _; have HP6 := Lib.hid (wrow_push (b := wv) HWD.out HBC.out hown6 hg6); clear hown6 hg6))
              go_roundg gj
              case measure => omega
              case rel => exact ⟨j + 1, rfl, by omega, by omega, by rw [← HTJ.out, HWC.out]; exact HP6.out.1, HP6.out.2⟩
          · obtain rfl : j = n.length := by omega
            rw [List.take_length] at HWD
            have k3 := HBC.out.cell z3
            have kp := HBC.out.cell x2
            have hmx : (nameK kn :: n.map (wordC kn)).length + 1 ≤ maxLen := by unfold maxLen; simp; omega
            have hmb : ((nameK kn :: n.map (wordC kn)).length + 1) * 16 ≤ 140737488355328 := by simp; omega
            have HGK : Hid (∃ f, goodK f (⟨(kn : Int), n, path, place⟩ : Cm) = true) := HG.out
            have HSG := Lib.hid ((HSEG.out.bel HBK.out).bel HBC.out)
            have HTB := Lib.hid ((HBK.out.trans HBC.out).tab HTAB.out)
            have HWC : Hid (wordsC ⟨(kn : Int), n, path, place⟩ = nameK kn :: (n.map (wordC kn) ++ if pathK kn = true then [textS path] else [])) := by unfold Hid wordsC; dsimp only; rw [Int.toNat_natCast]
            clear X1 z0 z2
            go_upto_if 54 with fail
            go_cut [8] from 53 to 68 (fun s8 wx => WRow wx wc.heap.size s8 (wordsC ⟨(kn : Int), n, path, place⟩) ∧ Bel wc wx)
            case first =>
              cases hpk : pathK kn with
              | true =>
                rw [hpk] at k3 HWC
                have hgs : goodS path = true := by
                  obtain ⟨f, hf⟩ := HGK.out
                  obtain ⟨_, _, hh⟩ := good_kinds hf
                  rcases hh with ⟨_, _, h0, _⟩ | ⟨h0, _⟩
                  · exact h0
                  · dsimp only at h0; rw [Int.toNat_natCast, hpk] at h0; cases h0
                have HPT := Lib.hid (text_ok hgs H6.out _ wr HSG.out HTB.out)
                have HWS : Hid (wordsC ⟨(kn : Int), n, path, place⟩ = (nameK kn :: n.map (wordC kn)) ++ [textS path]) := by unfold Hid; rw [HWC.out]; simp
                clear hpk hgs
                go_wp2_with (first
                  | (go_at_call 13; (with_reducible refine (HPT.out).mono ?_); rintro e wf ⟨hbf, rfl⟩; have HBF := Lib.hid (HBC.out.trans hbf); have HWF := Lib.hid (HWD.out.bel hbf); clear hbf)
                  | (at_builtin; (refine wpList_push rfl (.tmp 61) (.tmp 63) 44 rfl wc.heap.size 9 _ 1 16 Tryd.underlying44 infoStr rfl (by decide) u8 (nameK kn :: n.map (wordC kn)).length ((nameK kn :: n.map (wordC kn)).map strV) rfl HWF.out _ _ _ rfl (by simp) rfl (by simp [Value.oneCell']) hmx hmb HBF.out.size ?_); intro v6 w6 hown6 hg6 _; have HP6 := Lib.hid (wrow_push (b := textS path) HWF.out HBF.out hown6 hg6); clear hown6 hg6))
                go_meet
                rw [HWS.out]
                exact HP6.out
              | false =>
                rw [hpk] at k3 HWC
                have HWS : Hid (wordsC ⟨(kn : Int), n, path, place⟩ = nameK kn :: n.map (wordC kn)) := by unfold Hid; rw [HWC.out]; simp
                clear hpk
                go_wp2
                go_meet
                rw [HWS.out]
                exact ⟨HWD.out, HBC.out⟩
            case rest =>
            obtain ⟨hws, hbs⟩ := hcut
            have HWS := Lib.hid hws
            have HBS := Lib.hid hbs
            have hlj : (Lib.join (wordsC ⟨(kn : Int), n, path, place⟩) [32]).length ≤ 1000000 := by
              obtain ⟨f, hf⟩ := HGK.out
              have h1 := line_len hf
              have h2 : path.length ≤ 4096 := by
                obtain ⟨_, _, hh⟩ := good_kinds hf
                rcases hh with ⟨_, _, h0, _⟩ | ⟨_, h0, _⟩
                · exact (good_parts h0).2.1
                · dsimp only at h0; rw [h0]; simp
              rw [line_join, List.length_append] at h1
              dsimp only at h1
              omega
            have hjo := join_any HWS.out (by unfold wordsC; simp) (by unfold wordsC; split <;> simp <;> omega) hlj
            obtain ⟨jg, jc, rfl⟩ := WRow.form HWS.out (by unfold wordsC; simp)
            have HJO := Lib.hid hjo
            clear hjo hws hbs
            obtain ⟨jb, hjb⟩ : ∃ jb, Lib.join (wordsC ⟨(kn : Int), n, path, place⟩) [32] = jb := ⟨_, rfl⟩
            rw [hjb] at HJO hlj
            have HJB := Lib.hid hjb
            clear hjb
            go_wp2_with (first
              | (go_at_call 32; (with_reducible refine (HJO.out).mono ?_); rintro e w6 ⟨rfl, hb6⟩; have HB6 := Lib.hid (HBS.out.trans hb6); clear hb6))
            have HBO := Lib.hid (HBK.out.trans HB6.out)
            have hwr := write_any BB BB (textC (l.take k)) (⟨jb.toArray⟩ ++ ⟨#[10]⟩) w6 (bd_bel HBDK.out HBO.out) (by
              have h1 := HTK.out
              have h2 := textC_take l k
              have h3 := HSZ.out
              have e : (⟨jb.toArray⟩ ++ ⟨#[10]⟩ : ByteArray).size = jb.length + 1 := by simp [ByteArray.size]
              omega) (by rw [← hBB]; exact ((HBL.out.trans HBO.out)).size)
            have HW := Lib.hid hwr
            have HTX2 : Hid (textC (l.take (k + 1)) = textC (l.take k) ++ bl (⟨jb.toArray⟩ ++ ⟨#[10]⟩)) := by
              unfold Hid
              rw [HTX.out, line_join, HJB.out]
              simp [bl]
            clear hwr
            go_wp2_with (first
              | (go_at_call 41; (with_reducible refine (HW.out).mono ?_); rintro e w7 ⟨rfl, hbd7, hb7⟩; have HBD7 := Lib.hid hbd7; have HB7 := Lib.hid hb7; clear hbd7 hb7))
            have HR : Hid (Bd BB BB (textC (l.take (k + 1))) w7 ∧ Bel w1 w7) := ⟨by rw [HTX2.out]; exact HBD7.out, Below.trans (HBL.out.trans HBO.out) (by rw [hBB]; exact HB7.out)⟩
            go_roundg gk'
            case measure => omega
            case rel => exact ⟨k + 1, rfl, by omega, by omega, HR.out.1, HR.out.2⟩
      · obtain rfl : k = l.length := by omega
        rw [List.take_length] at HBDK
        have hst := Tryd.Builder_String_any BB BB (textC l) wr HBDK.out (by rw [← hBB]; exact HBL.out.size)
        have HST := Lib.hid hst
        clear hst
        go_wp2_with (first
          | (go_at_call 42; (with_reducible refine (HST.out).mono ?_); rintro e w6 ⟨rfl, hb6⟩; have HB6 := Lib.hid hb6; clear hb6))
        go_ret2
        exact HE.out _ _ rfl (HB1.out.trans (Below.trans HBL.out (by rw [hBB]; exact HB6.out)))
end Go.Proofs.YtefajplbgmikdaaDoor
