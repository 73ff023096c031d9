/-
  The walk of Parse.
-/
import Derived.Test.YtefajplbgmikdaaDoorCmj15
import Derived.Test.YtefajplbgmikdaaDoorCmj16
import Derived.StillTailTactics
import Derived.Test.YtefajplbgmikdaaDoorCmj10
import Derived.Test.YtefajplbgmikdaaDoorCmj13
namespace Go.Proofs.YtefajplbgmikdaaDoor
open Go.RowKit

set_option maxHeartbeats 4000000 in
set_option maxRecDepth 100000 in
theorem parseCmd_any (s : List UInt8) (w : World) (hr : Rul w) (hg : 2 < w.heap.size) :
    Calls Tryd.prog 28 #[.string ⟨s.toArray⟩] w (PPost w s) := by
  have hcut := Lib.hid (cut_any ⟨s.toArray⟩ w)
  have hsz : (⟨s.toArray⟩ : ByteArray).size = s.length := rfl
  have hbl : bl ⟨s.toArray⟩ = s := rfl
  rw [hsz] at hcut
  unfold CutPost at hcut
  rw [hbl] at hcut
  obtain ⟨sb, hsb⟩ : ∃ sb : ByteArray, (⟨s.toArray⟩ : ByteArray) = sb := ⟨_, rfl⟩
  rw [hsb] at hcut hsz hbl ⊢
  obtain ⟨N, hN⟩ : ∃ N, s.length = N := ⟨_, rfl⟩
  have HN := Lib.hid hN
  rw [hN] at hsz hcut
  have hEE : ∀ (i c : Int), parseC s = ([], i, c) → Hid (∀ w', Bel w w' → PPost w s (.returned (.tuple #[.slice none 0 0, .int .i64 i, .int .i64 c])) w') := fun i c h w' hb => by
    refine ⟨hb, .slice none 0 0, by rw [h], ?_⟩
    rw [h]
    exact ResRow.nil _ _
  have HR := Lib.hid hr
  clear hbl hsb hN hr
  by_cases hbig : 1048576 < N
  · have HE := hEE 0 22 (by unfold parseC; rw [if_pos (by rw [HN.out]; exact hbig)])
    have HC : Hid (Calls Tryd.prog 38 #[.string sb] w fun e w' => e = .returned (.tuple #[.slice none 0 0, .int .i64 0, .int .i64 22]) ∧ Bel w w') :=
      hcut.out.mono fun e w' h => h.elim (fun h => h.2) (fun h => absurd h.1 (by omega))
    clear hcut hEE hbig
    go_enter Tryd.func28, Tryd.ntmps28
    go_wp2_with (first
      | (go_at_call 38; (with_reducible refine (HC.out).mono ?_); rintro e w2 ⟨rfl, hb2⟩; have HB2 := Lib.hid hb2; clear hb2))
    exact bodyPost_ret (v := .tuple #[.slice none 0 0, .int .i64 0, .int .i64 22]) (by simp [results, Tryd.results28, go_sem]) rfl (HE.out _ HB2.out)
  cases hc : cutL s 0 0 with
  | error i =>
    have HE := hEE i 20 (by unfold parseC; rw [if_neg (by rw [HN.out]; exact hbig), hc])
    have HC : Hid (Calls Tryd.prog 38 #[.string sb] w fun e w' => e = .returned (.tuple #[.slice none 0 0, .int .i64 i, .int .i64 20]) ∧ Bel w w') :=
      hcut.out.mono fun e w' h => h.elim (fun h => absurd h.1 hbig) (fun h => by have h := h.2; rw [hc] at h; exact ⟨h.2, h.1⟩)
    clear hcut hEE hbig hc
    go_enter Tryd.func28, Tryd.ntmps28
    go_wp2_with (first
      | (go_at_call 38; (with_reducible refine (HC.out).mono ?_); rintro e w2 ⟨rfl, hb2⟩; have HB2 := Lib.hid hb2; clear hb2))
    exact bodyPost_ret (v := .tuple #[.slice none 0 0, .int .i64 i, .int .i64 20]) (by simp [results, Tryd.results28, go_sem]) rfl (HE.out _ HB2.out)
  | ok l =>
  have hto := cut_tok s 0 0 l hc (by rw [HN.out]; omega)
  have HTO := Lib.hid hto
  have HNB := Lib.hid hbig
  have hlns := lns_ok (en := (N : Int)) (by omega) hto.1 (by have := hto.2; have := HN.out; omega)
  have HLN := Lib.hid hlns
  obtain ⟨L, hL⟩ : ∃ L, linesS (N : Int) l = L := ⟨_, rfl⟩
  rw [hL] at HLN
  have HPC : Hid (parseC s = match readsC true L with
    | .error a => ([], a, 20)
    | .ok [] => ([], N, 20)
    | .ok (x :: l) => cmdsC (x :: l) 0) := by unfold Hid parseC; rw [if_neg (by rw [HN.out]; exact hbig), hc]; dsimp only; rw [HN.out, hL]; rfl
  have HC : Hid (Calls Tryd.prog 38 #[.string sb] w fun e w' => Bel w w' ∧ ∃ v, e = .returned (.tuple #[v, .int .i64 0, .int .i64 0]) ∧ w'.ownsRow w.heap.size 106 4 v l.length (toksC l)) :=
    hcut.out.mono fun e w' h => h.elim (fun h => absurd h.1 hbig) (fun h => by have h := h.2; rw [hc] at h; exact h)
  have HLV : Hid (∀ v w2, Bel w w2 → w2.ownsRow w.heap.size 106 4 v l.length (toksC l) → Calls Tryd.prog 51 #[v, .int .i64 N] w2 fun e w' => Bel w w' ∧ ∃ v M, e = .returned v ∧ w.heap.size ≤ M ∧ LRow w' M v L) := fun v w2 hb ho => by
    refine (lines_any l v (N : Int) w2 (toks_row ho) (by have := wt_ge l; have := hto.2; have := HN.out; omega)).mono fun e w' h => ?_
    obtain ⟨h1, v', h2, h3⟩ := h
    rw [hL] at h3
    exact ⟨hb.trans h1, v', _, h2, hb.size, h3⟩
  clear hcut hc hto hlns hL hbig
  by_cases hL0 : L = []
  · subst hL0
    have HE := hEE N 20 HPC.out
    clear hEE HPC
    go_enter Tryd.func28, Tryd.ntmps28
    have HLE : Hid (∀ (w3 : World) M v3, LRow w3 M v3 [] → ∃ p c, v3 = .slice p 0 c) := fun w3 M v3 h => by
      obtain ⟨qs, _, ⟨_, h0 | ⟨g, cap, cur, h0, _⟩⟩, _⟩ := h
      · exact ⟨_, _, h0.1⟩
      · exact ⟨_, _, h0⟩
    go_wp2_with (first
      | (go_at_call 38; (with_reducible refine (HC.out).mono ?_); rintro e w2 ⟨hb2, v2, rfl, ho2⟩; have HL3 := Lib.hid (HLV.out _ _ hb2 ho2); clear hb2 ho2)
      | (go_at_call 51; (with_reducible refine (HL3.out).mono ?_); rintro e w3 ⟨hb3, v3, M3, rfl, hM3, hr3⟩; obtain ⟨p3, c3, rfl⟩ := HLE.out _ _ _ hr3; have HB3 := Lib.hid hb3; clear hb3 hr3 hM3))
    go_loopg [9, 10, 31] 0 (fun gf s9 s10 s31 wx => s31 = .int .i64 0 ∧ Bel w wx)
    case atStart => exact ⟨rfl, HB3.out⟩
    case round =>
      obtain ⟨rfl, hbl⟩ := hrel
      have HBL := Lib.hid hbl
      clear hbl
      go_wp2
      exact bodyPost_ret (v := .tuple #[.slice none 0 0, .int .i64 N, .int .i64 20]) (by simp [results, Tryd.results28, go_sem]) rfl (HE.out _ HBL.out)
  have HLL : Hid (∀ (w3 : World) M v3, LRow w3 M v3 L → ∃ G c, v3 = .slice (some ⟨G, 0, none⟩) L.length c ∧ M ≤ G ∧ L.length ≤ c ∧ RSt w3 G L []) := fun w3 M v3 h => lrow_rst h hL0
  have HEE := Lib.hid hEE
  have hlen : L.length ≤ 3000000 := HLN.out.len
  have hpos : 0 < L.length := List.length_pos_iff.2 hL0
  clear hEE hL0
  go_enter Tryd.func28, Tryd.ntmps28
  go_wp2_with (first
    | (go_at_call 38; (with_reducible refine (HC.out).mono ?_); rintro e w2 ⟨hb2, v2, rfl, ho2⟩; have HL3 := Lib.hid (HLV.out _ _ hb2 ho2); clear hb2 ho2)
    | (go_at_call 51; (with_reducible refine (HL3.out).mono ?_); rintro e w3 ⟨hb3, v3, M3, rfl, hM3, hr3⟩; obtain ⟨G, c3, rfl, hMG, hc3, hrs⟩ := HLL.out _ _ _ hr3; have HG : Hid (w.heap.size ≤ G) := Nat.le_trans hM3 hMG; have HRS := Lib.hid hrs; have HB3 := Lib.hid hb3; clear hb3 hr3 hM3 hMG hrs))
  go_loopg [9, 10, 31] L.length (fun gf s9 s10 s31 wx => ∃ (k : Nat) (ys : List Ln), s31 = .int .i64 k ∧ k = ys.length ∧ k ≤ L.length ∧ L.length ≤ k + gf ∧ readsC true L = preR ys (readsC ((k : Int) == 0) (L.drop k)) ∧ RSt wx G L ys ∧ Bel w wx)
  case atStart => exact ⟨0, [], rfl, rfl, Nat.zero_le _, by omega, (preR_nil _).symm, HRS.out, HB3.out⟩
  case round =>
    obtain ⟨k, ys, rfl, hky, hkl, hkg, hrel, hst, hbl⟩ := hrel
    have HST := Lib.hid hst
    have HREL := Lib.hid hrel
    have HBL := Lib.hid hbl
    have HKY := Lib.hid hky
    clear hst hrel hbl hky HRS HB3
    by_cases hk : k < L.length
    · obtain ⟨gk', rfl⟩ : ∃ g, gk = g + 1 := ⟨gk - 1, by omega⟩
      obtain ⟨x, hx⟩ : ∃ x, L[k]? = some x := ⟨_, List.getElem?_eq_getElem hk⟩
      have hxm := List.mem_of_getElem? hx
      obtain ⟨cs, h1, h2, h3, h4⟩ := HST.out
      obtain ⟨lv, hc2, hc4, htk⟩ := h4 k x hx (by have := HKY.out; omega)
      obtain ⟨ts, en⟩ := x
      obtain ⟨t, r, rfl⟩ : ∃ t r, ts = t :: r := by
        cases ts with
        | nil => exact absurd rfl (HLN.out.ne _ hxm)
        | cons t r => exact ⟨t, r, rfl⟩
      have HRL := Lib.hid (readLine_any G (k * 4) cs ((k : Int) == 0) t r lv en wr h1 (by omega) hc2 hc4 htk (HLN.out.tok _ hxm) (HLN.out.wt _ hxm) (HBL.out.rul HR.out) (by have := HG.out; omega))
      have HX := Lib.hid hx
      have HDR : Hid (L.drop k = (t :: r, en) :: L.drop (k + 1)) := by
        unfold Hid
        rw [List.drop_eq_getElem_cons hk]
        rw [List.getElem?_eq_getElem hk, Option.some.injEq] at hx
        rw [hx]
      cases hrc : readC ((k : Int) == 0) (t :: r, en) with
      | ok y =>
        have HRK : Hid (Calls Tryd.prog 52 #[.pointer (some ⟨G, k * 4, none⟩), .bool ((k : Int) == 0)] wr fun e w' => e = .returned (.pointer none) ∧ RSt w' G L (ys ++ [y]) ∧ Bel w w') := HRL.out.mono fun e w' h => by
          unfold RdPost at h
          rw [hrc] at h
          obtain ⟨hg, he, lv', hc, ht⟩ := h
          obtain rfl := HKY.out
          exact ⟨he, rst_step h1 h2 h3 h4 hx (read_en hrc) hg hc ht, But.bel HBL.out hg fun k hk => by cases hk; exact HG.out⟩
        have HRN : Hid (readsC true L = preR (ys ++ [y]) (readsC (((k : Int) + 1) == 0) (L.drop (k + 1)))) := by
          unfold Hid
          rw [HREL.out, HDR.out, reads_ok hrc]
          rw [show (((k : Int) + 1) == 0) = false from beq_false_of_ne (by omega)]
        clear h1 h2 h3 h4 hc2 hc4 htk hxm hx hrc HRL HREL HST HDR
        go_wp2_with (first
          | (go_at_call 52; (with_reducible refine (HRK.out).mono ?_); rintro e w4 ⟨rfl, hs4, hb4⟩; have HS4 := Lib.hid hs4; have HB4 := Lib.hid hb4; clear hs4 hb4))
        go_roundg gk'
        case measure => omega
        case rel => exact ⟨k + 1, ys ++ [y], rfl, by have := HKY.out; simp [this], by omega, by omega, HRN.out, HS4.out, HB4.out⟩
      | error a =>
        have HRK : Hid (Calls Tryd.prog 52 #[.pointer (some ⟨G, k * 4, none⟩), .bool ((k : Int) == 0)] wr fun e w' => ∃ b, e = .returned (.pointer (some ⟨b, 0, none⟩)) ∧ w'.heap[b]? = some (.cells #[.int .i64 a, .int .i64 20] 99 (0, 0)) ∧ Bel w w') := HRL.out.mono fun e w' h => by
          unfold RdPost at h
          rw [hrc] at h
          obtain ⟨hg, b, he, hb⟩ := h
          exact ⟨b, he, hb, But.bel HBL.out hg fun k hk => by cases hk; exact HG.out⟩
        have HE := HEE.out a 20 (by rw [HPC.out, HREL.out, HDR.out, reads_err hrc])
        clear h1 h2 h3 h4 hc2 hc4 htk hxm hx hrc HRL HREL HST HDR
        go_upto_region 10 with (first
          | (go_at_call 52; (with_reducible refine (HRK.out).mono ?_); rintro e w4 ⟨b, rfl, hs4, hb4⟩; have HS4 := Lib.hid hs4; have HB4 := Lib.hid hb4; have b0 := heap_cell hs4 0; have b1 := heap_cell hs4 1; clear hs4 hb4))
        have d0 : w4.drew.cell? ⟨b, 0, none⟩ = some (.int .i64 a) := b0
        have d1 : w4.drew.cell? ⟨b, 1, none⟩ = some (.int .i64 20) := b1
        go_region_law (fail)
        all_goals
          go_wp2
          exact bodyPost_ret (v := .tuple #[.slice none 0 0, .int .i64 a, .int .i64 20]) (by simp [results, Tryd.results28, go_sem]) rfl (HE.out _ HB4.out.drew)
    · have hke : k = L.length := by omega
      have hro : readsC true L = .ok ys := by
        rw [HREL.out, List.drop_of_length_le (by omega), readsC, preR, List.append_nil]
      have hyl := reads_len hro
      have HLN2 := Lib.hid (reads_facts hro HLN.out.pl).1
      have HSUB := Lib.hid (reads_sub hro)
      have HPS : Hid (parseC s = cmdsC ys 0) := by
        unfold Hid
        rw [HPC.out, hro]
        cases ys with
        | nil => simp at hyl; omega
        | cons y ys => rfl
      have HYL := Lib.hid hyl
      clear hro hke HREL hyl HKY HEE HPC
      have hz : ((L.length : Int) == 0) = false := beq_false_of_ne (by omega)
      obtain ⟨B, hB⟩ : ∃ B, wr.heap.size = B := ⟨_, rfl⟩
      have HB := Lib.hid hB
      clear hB
      have HF : Hid (∀ (a c : Int) (v : Value) (w' : World) (cms : List Cm), cmdsC ys 0 = (cms, a, c) → Bel wr w' → ResRow w' B v cms → PPost w s (.returned (.tuple #[v, .int .i64 a, .int .i64 c])) w') := fun a c v w' cms h1 h2 h3 => by
        refine ⟨HBL.out.trans h2, v, by rw [HPS.out, h1], ?_⟩
        rw [HPS.out, h1]
        exact h3.base (by rw [← HB.out]; exact HBL.out.size)
      go_wp2
      go_loopg [11, 58] L.length (fun gf s11 s58 wx => ∃ (k : Nat) (cms : List Cm), s58 = .int .i64 k ∧ cms.length = k ∧ k ≤ L.length ∧ L.length ≤ k + gf ∧ cmdsC ys 0 = (cms ++ (cmdsC (ys.drop k) k).1, (cmdsC (ys.drop k) k).2) ∧ ResRow wx B s11 cms ∧ RSt wx G L ys ∧ Bel wr wx)
      case atStart => exact ⟨0, [], rfl, rfl, Nat.zero_le _, by omega, rfl, ResRow.nil _ _, HST.out, Bel.refl _⟩
      case round =>
        obtain ⟨k, cms, rfl, hck, hkl, hkg, hrel, hrow, hst, hbl⟩ := hrel
        rename World => wx
        have HST2 := Lib.hid hst
        have HREL := Lib.hid hrel
        have HBL2 := Lib.hid hbl
        have HROW := Lib.hid hrow
        have HCK := Lib.hid hck
        clear hst hrel hbl hrow hck
        by_cases hk : k < L.length
        · obtain ⟨gk', rfl⟩ : ∃ g, gk = g + 1 := ⟨gk - 1, by omega⟩
          obtain ⟨y, hy⟩ : ∃ y, ys[k]? = some y := ⟨_, List.getElem?_eq_getElem (by rw [HYL.out]; exact hk)⟩
          obtain ⟨cs, h1, h2, h3, h4⟩ := HST2.out
          obtain ⟨hc0, hc1, lv, hc2, hc3, htk⟩ := h3 k y hy
          have g0 : wx.cell? ⟨G, k * 4, none⟩ = some (.int .i64 y.kind) := by rw [heap_cell h1]; exact hc0
          have g1 : wx.cell? ⟨G, k * 4 + 1, none⟩ = some (.int .i64 y.place) := by rw [heap_cell h1]; exact hc1
          have g2 : wx.cell? ⟨G, k * 4 + 2, none⟩ = some lv := by rw [heap_cell h1]; exact hc2
          have g3 : wx.cell? ⟨G, k * 4 + 3, none⟩ = some (.int .i64 y.en) := by rw [heap_cell h1]; exact hc3
          obtain ⟨f, hln⟩ := lnl_at HLN2.out k y hy
          obtain ⟨x0, hx0, t0, ht0⟩ := HSUB.out k y hy
          have hGx := heap_lt h1
          have htok : ∀ x ∈ y.l, TkOk x := fun x hx => HLN.out.tok x0 hx0 x (by rw [ht0]; simp [hx])
          have hwt : wt y.l ≤ 800000000 := by have := HLN.out.wt x0 hx0; rw [ht0, wt] at this; omega
          by_cases h96 : 4096 ≤ k
          · have hd : decide ((4096 : Int) ≤ k) = true := decide_eq_true (by omega)
            have HCE := Lib.hid (cms_many hy h96 HREL.out)
            clear h96 h1 h2 h3 h4 hc0 hc1 hc2 hc3 htk hln htok hwt hx0 ht0 g0 g2 g3 hy
            go_upto_region 19 with fail
            have d1 : wx.drew.cell? ⟨G, k * 4 + 1, none⟩ = some (.int .i64 y.place) := g1
            go_region_law (fail)
            all_goals
              go_wp2
              exact bodyPost_ret (v := .tuple #[u11, .int .i64 y.place, .int .i64 22]) (by simp [results, Tryd.results28, go_sem]) rfl (HF.out _ _ _ _ _ HCE.out HBL2.out.drew (HROW.out.bel (Bel.refl _).drew))
          · have hd : decide ((4096 : Int) ≤ k) = false := decide_eq_false (by omega)
            have HCL := Lib.hid (cmdLine_any G (k * 4) f y.kind y.place y.en y.l lv wx hln g0 g1 g2 g3 (htk.mono (Nat.le_of_lt hGx)) htok hwt ((HBL.out.trans HBL2.out).rul HR.out) (by have := HG.out; omega))
            have HY := Lib.hid hy
            have H96 := Lib.hid h96
            clear h96 h1 h2 h3 h4 hc0 hc1 hc2 hc3 htk hln htok hwt hx0 ht0 g0 g1 g2 g3 hy
            unfold CmPost at HCL
            cases hcc : cmdC y with
            | error ae =>
              obtain ⟨a, ec⟩ := ae
              have HCE := Lib.hid (cms_err HY.out H96.out hcc HREL.out)
              rw [show (⟨y.kind, y.place, y.l, y.en⟩ : Ln) = y from rfl, hcc] at HCL
              clear hcc
              go_upto_region 22 with (first
                | (go_at_call 53; (with_reducible refine (HCL.out).mono ?_); rintro e w4 ⟨hb4, ep, en, ec', b, rfl, hs4⟩; have HB4 := Lib.hid hb4; have HS4 := Lib.hid hs4; clear hb4 hs4))
              obtain ⟨V, hV⟩ : ∃ V, w4.alloc (.cells #[.int .i64 y.kind, .slice ep en ec', .slice none 0 0, .int .i64 y.place] 73) = V := ⟨_, rfl⟩
              have hWV : Bel w4 V := hV ▸ (Bel.refl w4).alloc _
              have hs5 := hWV.heap HS4.out
              have b0 : V.drew.cell? ⟨b, 0, none⟩ = some (.int .i64 a) := heap_cell hs5 0
              have b1 : V.drew.cell? ⟨b, 1, none⟩ = some (.int .i64 ec) := heap_cell hs5 1
              have HBV := Lib.hid ((HB4.out.trans hWV).drew)
              rw [hV]
              clear hWV hs5 hV
              go_region_law (fail)
              all_goals
                go_wp2
                exact bodyPost_ret (v := .tuple #[u11, .int .i64 a, .int .i64 ec]) (by simp [results, Tryd.results28, go_sem]) rfl (HF.out _ _ _ _ _ HCE.out (HBL2.out.trans HBV.out) (HROW.out.bel HBV.out))
            | ok c =>
              have HCE := Lib.hid (cms_step HY.out H96.out hcc HREL.out)
              rw [show (⟨y.kind, y.place, y.l, y.en⟩ : Ln) = y from rfl, hcc] at HCL
              clear hcc
              go_upto_region 21 with (first
                | (go_at_call 53; (with_reducible refine (HCL.out).mono ?_); rintro e w4 ⟨hb4, nv, pv, rfl, hn4, hp4, h64⟩; obtain ⟨np, nn, nc, rfl⟩ := own_slice hn4; obtain ⟨pp, pn, pc, rfl⟩ := own_slice hp4; have HB4 := Lib.hid hb4; have HN4 := Lib.hid hn4; have HP4 := Lib.hid hp4; have H64 := Lib.hid h64; clear hb4 hn4 hp4 h64))
              obtain ⟨V, hV⟩ : ∃ V, w4.alloc (.cells #[.int .i64 c.kind, .slice np nn nc, .slice pp pn pc, .int .i64 c.place] 73) = V := ⟨_, rfl⟩
              have hWV : Bel w4 V := hV ▸ (Bel.refl w4).alloc _
              have hTV : V.heap[w4.heap.size]? = some (.cells #[.int .i64 c.kind, .slice np nn nc, .slice pp pn pc, .int .i64 c.place] 73 (0, 0)) := hV ▸ heap_alloc_new _ _
              rw [hV]
              have y0 : V.cell? ⟨w4.heap.size, 0, none⟩ = some (.int .i64 c.kind) := heap_cell hTV 0
              have y1 : V.cell? ⟨w4.heap.size, 1, none⟩ = some (.slice np nn nc) := heap_cell hTV 1
              have y2 : V.cell? ⟨w4.heap.size, 2, none⟩ = some (.slice pp pn pc) := heap_cell hTV 2
              have y3 : V.cell? ⟨w4.heap.size, 3, none⟩ = some (.int .i64 c.place) := heap_cell hTV 3
              have HBV := Lib.hid (HB4.out.trans hWV)
              have HCV : Hid (CmHas V B ((.slice np nn nc, .slice pp pn pc), c)) := by
                have hb : B ≤ wx.heap.size := by rw [← HB.out]; exact HBL2.out.size
                exact ⟨own_base (Bel.own hWV HN4.out) hb, own_base (HP4.out.bel hWV) hb, H64.out⟩
              obtain ⟨qs, hqs, hown, hhas⟩ := HROW.out
              have HQS := Lib.hid hqs
              have HOWN := Lib.hid hown
              have HHAS := Lib.hid hhas
              have hcl := HCK.out
              have hmx : cms.length + 1 ≤ maxLen := by unfold maxLen; omega
              have hmb : (cms.length + 1) * 64 ≤ 140737488355328 := by omega
              have hBV : B ≤ V.heap.size := by rw [← HB.out]; exact Nat.le_trans HBL2.out.size HBV.out.size
              clear hWV hTV hV hqs hown hhas hcl
              go_wp2_with (first
                | (at_builtin; go_loud (refine wpList_push rfl (.tmp 87) (.tmp 89) 49 rfl B 73 _ 4 64 Tryd.underlying49 infoCmd rfl (by decide) u11 _ _ rfl (HBV.out.own HOWN.out) _ _ _ rfl rfl rfl (by simp [Value.oneCell']) hmx hmb hBV ?_); intro v3 w3 hown3 hg3 _))
              have HRP := Lib.hid (res_push HQS.out HOWN.out HHAS.out HBV.out HCV.out hown3 hg3 HBL2.out (by rw [HB.out]; exact Nat.le_refl _))
              clear hown3 hg3
              go_roundg gk'
              case measure => omega
              case rel => exact ⟨k + 1, cms ++ [c], rfl, by simp [HCK.out], by omega, by omega, HCE.out, HRP.out.1, HST.out.bel HRP.out.2, HRP.out.2⟩
        · have hke : k = L.length := by omega
          have HCE := Lib.hid (cms_end (by rw [HYL.out]; omega) HREL.out)
          go_wp2
          exact bodyPost_ret (v := .tuple #[u11, .int .i64 0, .int .i64 0]) (by simp [results, Tryd.results28, go_sem]) rfl (HF.out _ _ _ _ _ HCE.out HBL2.out HROW.out)
end Go.Proofs.YtefajplbgmikdaaDoor

/-
  What is wrong by syntax is told ahead of every number that is out of its range; of two of one kind the first one; the scripts that the laws always go through. No program in this text.
-/
namespace Go.Proofs.YtefajplbgmikdaaDoor

def synL : List (List UInt8) := [[110, 111, 112, 101], [112, 117, 115, 104, 32, 49], [114, 117, 108, 101, 32, 111, 100, 100], [99, 111, 108, 111, 114, 32, 49, 32, 50, 32, 51], [116, 111, 108], [102, 105, 108, 108], [102, 105, 108, 108, 32, 76, 32, 48, 32, 48], [100, 97, 115, 104, 32, 49, 32, 50], [99, 97, 110, 118, 97, 115, 32, 49, 32, 49, 32, 48, 32, 48, 32, 48]]
def ranL : List (List UInt8) := [[116, 111, 108, 32, 48], [99, 111, 108, 111, 114, 32, 48, 32, 48, 32, 50, 53, 54, 32, 48], [109, 97, 116, 114, 105, 120, 32, 49, 32, 49, 32, 49, 32, 49, 32, 48, 32, 48], [109, 105, 116, 101, 114, 32, 54, 51], [102, 105, 108, 108, 32, 77, 32, 48, 32, 50, 49, 52, 55, 52, 56, 51, 54, 52, 56], [100, 97, 115, 104, 32, 48, 32, 48, 32, 48], [119, 105, 100, 116, 104, 32, 50, 49, 52, 55, 52, 56, 51, 54, 52, 56], [102, 105, 108, 108, 32, 77, 48, 32, 48, 75, 48, 32, 49, 32, 49, 32, 50, 32, 50]]
def headL : List UInt8 := [99, 97, 110, 118, 97, 115, 32, 49, 32, 49, 32, 48, 32, 48, 32, 48, 10]
def pushL : List UInt8 := [112, 117, 115, 104, 10]
def firstS (n m : Nat) (late : Bool) : List UInt8 := if late = true then headL ++ synL.getD n [] ++ [10] ++ ranL.getD m [] else headL ++ ranL.getD m [] ++ [10] ++ synL.getD n []
def firstP (m : Nat) (late : Bool) : Nat := if late = true then headL.length else headL.length + ((ranL.getD m []).length + 1)
def firstOk (n m : Nat) (late : Bool) : Bool :=
  match parseC (firstS n m late) with
  | (l, a, e) => decide (e = 20) && decide (l = []) && decide ((firstP m late : Int) ≤ a) && decide (a ≤ (firstP m late : Int) + (synL.getD n []).length)
theorem first_ok : ∀ n : Fin 9, ∀ m : Fin 8, ∀ late : Bool, firstOk n.1 m.1 late = true := by decide +kernel
def twoS (n m : Nat) : List UInt8 := headL ++ pushL ++ ranL.getD m [] ++ [10] ++ ranL.getD n []
def twoOk (n m : Nat) : Bool :=
  match parseC (twoS n m) with
  | (l, a, e) => decide (e = 21) && decide (l.length = 2) && decide ((headL.length : Int) + 5 ≤ a) && decide (a < (headL.length : Int) + 5 + (ranL.getD m []).length)
theorem two_ok : ∀ n : Fin 8, ∀ m : Fin 8, twoOk n.1 m.1 = true := by decide +kernel
def wakeA : List UInt8 := [99, 97, 110, 118, 97, 115, 32, 50, 32, 51, 32, 48, 32, 48, 32, 50, 53, 53, 10, 10, 114, 117, 108, 101, 32, 101, 118, 101, 110, 111, 100, 100, 10, 102, 105, 108, 108, 32, 77, 48, 32, 48, 32, 54, 52, 32, 48, 32, 48, 32, 54, 52, 122]
def wakeB : List UInt8 := [99, 97, 110, 118, 97, 115, 32, 50, 32, 50, 32, 48, 32, 48, 32, 48, 10, 116, 111, 108, 32, 48]
def wakeC : List UInt8 := [99, 97, 110, 118, 97, 115, 32, 50, 32, 50, 32, 48, 32, 48, 32, 48, 10, 102, 105, 108, 108, 32, 77, 48]
def wakeT : List UInt8 := [99, 97, 110, 118, 97, 115, 32, 50, 32, 51, 32, 48, 32, 48, 32, 50, 53, 53, 10, 114, 117, 108, 101, 32, 101, 118, 101, 110, 111, 100, 100, 10, 102, 105, 108, 108, 32, 77, 32, 48, 32, 48, 32, 76, 32, 54, 52, 32, 48, 32, 76, 32, 48, 32, 54, 52, 32, 90, 10]
def wakeL : List Cm := [⟨1, [2, 3, 0, 0, 255], [], 0⟩, ⟨5, [1], [], 20⟩, ⟨13, [], [⟨1, [0, 0, 0, 0, 0, 0], 0⟩, ⟨2, [64, 0, 0, 0, 0, 0], 0⟩, ⟨2, [0, 64, 0, 0, 0, 0], 0⟩, ⟨6, [0, 0, 0, 0, 0, 0], 0⟩], 33⟩]
theorem wake_a : parseC wakeA = (wakeL, 0, 0) := by decide +kernel
theorem wake_b : parseC wakeB = ([⟨1, [2, 2, 0, 0, 0], [], 0⟩], 21, 21) := by decide +kernel
theorem wake_c : parseC wakeC = ([], 24, 20) := by decide +kernel
theorem wake_good : goodC wakeL = true := by decide +kernel
theorem itoa_2 : Lib.itoa 2 = [50] := by rw [show (2 : Int) = ((2 : Nat) : Int) from rfl, Lib.itoa_nonneg, Lib.decDigits_one (by decide)]; rfl
theorem itoa_3 : Lib.itoa 3 = [51] := by rw [show (3 : Int) = ((3 : Nat) : Int) from rfl, Lib.itoa_nonneg, Lib.decDigits_one (by decide)]; rfl
theorem itoa_255 : Lib.itoa 255 = [50, 53, 53] := by rw [show (255 : Int) = ((255 : Nat) : Int) from rfl, Lib.itoa_nonneg, Lib.decDigits, dif_neg (by decide), Lib.decDigits_two (by decide) (by decide)]; rfl
def wakeP : List Sg := [⟨1, [0, 0, 0, 0, 0, 0], 0⟩, ⟨2, [64, 0, 0, 0, 0, 0], 0⟩, ⟨2, [0, 64, 0, 0, 0, 0], 0⟩, ⟨6, [0, 0, 0, 0, 0, 0], 0⟩]
theorem wake_path : textS wakeP = [77, 32, 48, 32, 48, 32, 76, 32, 54, 52, 32, 48, 32, 76, 32, 48, 32, 54, 52, 32, 90] := by
  have : wordsS wakeP = [[77], [48], [48], [76], [54, 52], [48], [76], [48], [54, 52], [90]] := by
    simp [wordsS, wakeP, wordsOf, numsOf, letterB, countK, itoa_0, itoa_64]
  unfold textS
  rw [this]
  rfl
theorem wake_text : textC wakeL = wakeT := by
  have h1 : lineC ⟨1, [2, 3, 0, 0, 255], [], 0⟩ = [99, 97, 110, 118, 97, 115, 32, 50, 32, 51, 32, 48, 32, 48, 32, 50, 53, 53, 10] := by
    unfold lineC wordC
    simp only [show wordsK (Int.toNat 1) = [] from rfl, if_true, List.flatMap_cons, List.flatMap_nil, itoa_0, itoa_2, itoa_3, itoa_255]
    rfl
  have h2 : lineC ⟨5, [1], [], 20⟩ = [114, 117, 108, 101, 32, 101, 118, 101, 110, 111, 100, 100, 10] := by rfl
  have h3 : lineC ⟨13, [], wakeP, 33⟩ = [102, 105, 108, 108, 32, 77, 32, 48, 32, 48, 32, 76, 32, 54, 52, 32, 48, 32, 76, 32, 48, 32, 54, 52, 32, 90, 10] := by
    unfold lineC
    simp only [wake_path]
    rfl
  show lineC ⟨1, [2, 3, 0, 0, 255], [], 0⟩ ++ (lineC ⟨5, [1], [], 20⟩ ++ (lineC ⟨13, [], wakeP, 33⟩ ++ [])) = _
  rw [h1, h2, h3]
  rfl
end Go.Proofs.YtefajplbgmikdaaDoor

/-
  The walks of the law's Fair and wakes.
-/
namespace Go.Proofs.YtefajplbgmikdaaDoor
open Go.RowKit

def fair1 (c : Cm) : Bool := decide (c.n.length ≤ 100) && decide (c.path.length ≤ 100)
def fairS (l : List Cm) : Bool := l.all fair1 && decide (l.length ≤ 60)
theorem CmdRow.at {w : World} {v : Value} {l : List Cm} (h : CmdRow w v l) {k : Nat} {c : Cm} (hk : l[k]? = some c) : ∃ b o cp np nc pp pc, v = .slice (some ⟨b, o, none⟩) l.length cp ∧
    (w.cell? ⟨b, o + k * 4, none⟩ = some (.int .i64 c.kind) ∧ w.cell? ⟨b, o + k * 4 + 1, none⟩ = some (.slice np c.n.length nc) ∧ w.cell? ⟨b, o + k * 4 + 2, none⟩ = some (.slice pp c.path.length pc) ∧ w.cell? ⟨b, o + k * 4 + 3, none⟩ = some (.int .i64 c.place)) ∧
    NumRow w (.slice np c.n.length nc) c.n ∧ SegRow w w.heap.size (.slice pp c.path.length pc) c.path ∧ ∀ s ∈ c.path, s.v.length = 6 := by
  obtain ⟨p, cp, rfl, h2, h3⟩ := h
  obtain ⟨b, o, nv, pv, rfl, ⟨q0, q1, q2, q3⟩, h5, h6, h7⟩ := h3 k c hk
  obtain ⟨np, nc, rfl⟩ := num_form h5
  obtain ⟨pp, pc, rfl⟩ := segrow_form h6
  exact ⟨b, o, cp, np, nc, pp, pc, rfl, ⟨q0, q1, q2, q3⟩, h5, h6, h7⟩
theorem CmdRow.form {w : World} {v : Value} {l : List Cm} (h : CmdRow w v l) : ∃ p cp, v = .slice p l.length cp := by
  obtain ⟨p, cp, h, _⟩ := h
  exact ⟨p, cp, h⟩
set_option maxHeartbeats 4000000 in
set_option maxRecDepth 100000 in
theorem fair_any (l : List Cm) (v : Value) (w : World) (h : CmdRow w v l) (hn : l.length ≤ 9223372036854775807) : Calls Tryd.prog 22 #[v] w fun e w' => e = .returned (.bool (fairS l)) ∧ Bel w w' := by
  have H := Lib.hid h
  obtain ⟨p, cp, rfl⟩ := h.form
  clear h
  go_enter Tryd.func22, Tryd.ntmps22
  go_wp2
  go_loopg [3] l.length (fun gf s3 wx => ∃ k : Nat, s3 = .int .i64 k ∧ k ≤ l.length ∧ l.length ≤ k + gf ∧ l.all fair1 = (l.drop k).all fair1 ∧ wx = w)
  case atStart => exact ⟨0, rfl, Nat.zero_le _, by omega, rfl, rfl⟩
  case round =>
    obtain ⟨k, rfl, hkl, hkg, hrel, rfl⟩ := hrel
    have HREL := Lib.hid hrel
    clear hrel
    by_cases hk : k < l.length
    · obtain ⟨gk', rfl⟩ : ∃ g, gk = g + 1 := ⟨gk - 1, by omega⟩
      obtain ⟨c, hc⟩ : ∃ c, l[k]? = some c := ⟨_, List.getElem?_eq_getElem hk⟩
      obtain ⟨b, o, cp', np, nc, pp, pc, he, ⟨q0, q1, q2, q3⟩, _, _, _⟩ := H.out.at hc
      simp only [Value.slice.injEq] at he
      obtain ⟨rfl, _, rfl⟩ := he
      have HDR : Hid ((l.drop k).all fair1 = (fair1 c && (l.drop (k + 1)).all fair1)) := by
        unfold Hid
        rw [List.drop_eq_getElem_cons hk, List.all_cons]
        rw [List.getElem?_eq_getElem hk, Option.some.injEq] at hc
        rw [hc]
      clear hc
      by_cases h1 : 100 < c.n.length
      · have HF : Hid (fairS l = false) := by
          unfold Hid fairS
          rw [HREL.out, HDR.out]
          have : fair1 c = false := by unfold fair1; rw [decide_eq_false (by omega : ¬ c.n.length ≤ 100)]; rfl
          rw [this]; rfl
        have hd : decide ((100 : Int) < c.n.length) = true := decide_eq_true (by omega)
        go_wp2
        exact bodyPost_ret (v := .bool false) (by simp [results, Tryd.results22, go_sem]) rfl ⟨by rw [HF.out], Bel.refl _⟩
      · have hd : decide ((100 : Int) < c.n.length) = false := decide_eq_false (by omega)
        by_cases h2 : 100 < c.path.length
        · have HF : Hid (fairS l = false) := by
            unfold Hid fairS
            rw [HREL.out, HDR.out]
            have : fair1 c = false := by unfold fair1; rw [decide_eq_false (by omega : ¬ c.path.length ≤ 100), Bool.and_false]
            rw [this]; rfl
          have hd2 : decide ((100 : Int) < c.path.length) = true := decide_eq_true (by omega)
          go_wp2
          exact bodyPost_ret (v := .bool false) (by simp [results, Tryd.results22, go_sem]) rfl ⟨by rw [HF.out], Bel.refl _⟩
        · have hd2 : decide ((100 : Int) < c.path.length) = false := decide_eq_false (by omega)
          have HF : Hid (l.all fair1 = (l.drop (k + 1)).all fair1) := by
            unfold Hid
            rw [HREL.out, HDR.out]
            have : fair1 c = true := by unfold fair1; rw [decide_eq_true (by omega : c.path.length ≤ 100), decide_eq_true (by omega : c.n.length ≤ 100)]; rfl
            rw [this]; rfl
          go_wp2
          go_roundg gk'
          case measure => omega
          case rel => exact ⟨k + 1, rfl, by omega, by omega, HF.out, rfl⟩
    · have HF : Hid (fairS l = decide (l.length ≤ 60)) := by
        unfold Hid fairS
        rw [HREL.out, List.drop_of_length_le (by omega)]
        rfl
      have hd : decide ((l.length : Int) ≤ 60) = decide (l.length ≤ 60) := by
        by_cases h : l.length ≤ 60
        · rw [decide_eq_true h, decide_eq_true (by omega)]
        · rw [decide_eq_false h, decide_eq_false (by omega)]
      clear H
      go_wp2
      exact bodyPost_ret (v := .bool (decide (l.length ≤ 60))) (by simp [results, Tryd.results22, go_sem]) rfl ⟨by rw [HF.out], Bel.refl _⟩

theorem parse_ok {s : List UInt8} {l : List Cm} {a c : Int} (h : parseC s = (l, a, c)) (w : World) (hb : Base w) :
    Calls Tryd.prog 28 #[.string ⟨s.toArray⟩] w fun e w' => Bel w w' ∧ ∃ p cp, e = .returned (.tuple #[.slice p l.length cp, .int .i64 a, .int .i64 c]) ∧ CmdRow w' (.slice p l.length cp) l := (parseCmd_any s w hb.rul hb.lt).mono fun e w' hp => by
  obtain ⟨h1, v, h2, h3⟩ := hp
  rw [h] at h2 h3
  have h4 := h3.cmd
  obtain ⟨p, cp, rfl⟩ := h4.form
  exact ⟨h1, p, cp, h2, h4⟩
theorem textC_ok {l : List Cm} (hg : goodC l = true) (hk : ∀ c ∈ l, Ok1 c) (hn : l.length ≤ 1000000000) (hs : (textC l).length ≤ 500000000) (v : Value) (w : World) (h : CmdRow w v l) (hb : Base w) :
    Calls Tryd.prog 24 #[v] w fun e w' => Bel w w' ∧ e = .returned (.tuple #[.string ⟨(textC l).toArray⟩, .int .i64 0]) :=
  (textCmds_any l v w h hk hn (fun _ => hs) hb.tab).mono fun e w' hp => ⟨hp.1, by rw [hp.2, hg]; rfl⟩
set_option maxHeartbeats 8000000 in
set_option maxRecDepth 100000 in
theorem wakesC_any {w : World} (hb : Base w) : Calls Tryd.prog 23 #[] w fun e w' => e = .returned (.bool true) ∧ Bel w w' := by
  have H1 : Hid (∀ V, Bel w V → _) := fun V h => parse_ok wake_a V (hb.on h)
  have H2 : Hid (∀ V, Bel w V → _) := fun V h => parse_ok wake_b V (hb.on h)
  have H3 : Hid (∀ V, Bel w V → _) := fun V h => parse_ok wake_c V (hb.on h)
  have hok : ∀ c ∈ wakeL, Ok1 c := by
    intro c hc
    unfold wakeL at hc
    simp only [List.mem_cons, List.not_mem_nil, or_false] at hc
    rcases hc with rfl | rfl | rfl <;> exact ⟨by decide, by decide⟩
  have H4 : Hid (∀ V v, Bel w V → CmdRow V v wakeL → _) := fun V v h hr => textC_ok wake_good hok (by decide) (by rw [wake_text]; decide) v V hr (hb.on h)
  rw [wake_text] at H4
  have H5 : Hid (∀ V v, CmdRow V v wakeL → Calls Tryd.prog 26 #[v] V fun e w' => Bel V w' ∧ e = .returned (.bool true)) := fun V v h => by
    have := goodCmds_any wakeL v V h hok (by decide)
    rw [wake_good] at this
    exact this
  clear hb hok
  unfold wakeA at H1
  unfold wakeB at H2
  unfold wakeC at H3
  unfold wakeT at H4
  go_enter Tryd.func23, Tryd.ntmps23
  go_upto_region 2 with (first
    | (go_at_call 28; (with_reducible refine (H1.out _ (Bel.refl _)).mono ?_); rintro e w1 ⟨hb1, ap, ac, rfl, hs1⟩; have HB1 := Lib.hid hb1; have HS1 := Lib.hid hs1; clear hb1 hs1))
  go_upto_region 3 with (first
    | (go_at_call 28; (with_reducible refine (H2.out _ HB1.out).mono ?_); rintro e w2 ⟨hb2, bp, bc, rfl, hs2⟩; have HB2 := Lib.hid (HB1.out.trans hb2); have HS2 := Lib.hid (HS1.out.bel hb2); clear hb2 hs2))
  go_upto_region 4 with (first
    | (go_at_call 28; (with_reducible refine (H3.out _ HB2.out).mono ?_); rintro e w3 ⟨hb3, dp, dc, rfl, hs3⟩; have HB3 := Lib.hid (HB2.out.trans hb3); have HS3 := Lib.hid (HS2.out.bel hb3); clear hb3 hs3))
  go_upto_region 5 with (first
    | (go_at_call 24; (with_reducible refine (H4.out _ _ HB3.out HS3.out).mono ?_); rintro e w4 ⟨hb4, rfl⟩; have HB4 := Lib.hid (HB3.out.trans hb4); have HS4 := Lib.hid (HS3.out.bel hb4); clear hb4))
  obtain ⟨bb, oo, cc, np, nc, pp, pc, he, ⟨_, q1, _, _⟩, hnr, _, _⟩ := HS4.out.at (k := 1) (show wakeL[1]? = some ⟨5, [1], [], 20⟩ from rfl)
  simp only [Value.slice.injEq] at he
  obtain ⟨rfl, _, rfl⟩ := he
  obtain ⟨nb, no, nc', he, _, n0⟩ := hnr.at (j := 0) (x := 1) rfl
  simp only [Value.slice.injEq] at he
  obtain ⟨rfl, _, rfl⟩ := he
  obtain ⟨bb', oo', cc', np2, nc2, pp2, pc2, he, ⟨_, _, r2, _⟩, _, _, _⟩ := HS4.out.at (k := 2) (show wakeL[2]? = some ⟨13, [], wakeP, 33⟩ from rfl)
  simp only [Value.slice.injEq, Option.some.injEq, Addr.mk.injEq] at he
  obtain ⟨⟨rfl, rfl, _⟩, _, rfl⟩ := he
  rw [show wakeL.length = 3 from rfl] at *
  rw [Nat.add_zero] at n0
  rw [show wakeP.length = 4 from rfl] at r2
  go_wp2_with (first
    | (go_at_call 26; (with_reducible refine (H5.out _ _ HS4.out).mono ?_); rintro e w5 ⟨hb5, rfl⟩; have HB5 := Lib.hid (HB4.out.trans hb5); clear hb5))
  exact bodyPost_ret (v := .bool true) (by simp [results, Tryd.results23, go_sem]) rfl ⟨rfl, HB5.out⟩
end Go.Proofs.YtefajplbgmikdaaDoor
