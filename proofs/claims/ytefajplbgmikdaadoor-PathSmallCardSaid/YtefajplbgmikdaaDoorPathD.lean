/-
  The walk of the reader's once.
-/
import Derived.Test.YtefajplbgmikdaaDoorPathC
import Derived.Deep.RegionLaw
namespace Go.Proofs.YtefajplbgmikdaaDoor
open Go.RowKit

/-- What 'once' leaves behind. -/
def OncePost (w : World) (r : Nat) (en : Int) (s : Except Int (List Tok × List Part)) (e : Ending) (w' : World) : Prop :=
  e = .returned (.tuple #[]) ∧ Below r w w' ∧ Kp w w' ∧ match s with
    | .ok (l, ps) => ∃ lv pv, St w' r lv en pv l ps
    | .error a => ∃ lv pv, Bad w' r lv en pv a
/-- The numbers that are still to come. -/
def Rest (en : Int) (ct i : Nat) (l0 l ns : List Tok) : Prop := takeNums en ct l0 = match takeNums en (ct - i) l with | .ok (a, r) => .ok (ns ++ a, r) | .error e => .error e
theorem rest_start (en : Int) (ct : Nat) (l : List Tok) : Rest en ct 0 l l [] := by
  unfold Rest
  rw [Nat.sub_zero]
  cases takeNums en ct l with
  | ok p => obtain ⟨a, b⟩ := p; rfl
  | error e => rfl
theorem rest_step {en : Int} {ct i : Nat} {l0 l ns : List Tok} {t : Tok} (h : Rest en ct i l0 (t :: l) ns) (hi : i < ct) (ht : t.kind = 2) : Rest en ct (i + 1) l0 l (ns ++ [t]) := by
  unfold Rest at h ⊢
  rw [h]
  obtain ⟨k, hk⟩ : ∃ k, ct - i = k + 1 := ⟨ct - i - 1, by omega⟩
  rw [hk, show ct - (i + 1) = k by omega, takeNums, if_pos ht]
  cases takeNums en k l with
  | ok p => obtain ⟨a, b⟩ := p; simp
  | error e => rfl
theorem rest_bad {en : Int} {ct i : Nat} {l0 l ns : List Tok} (h : Rest en ct i l0 l ns) (hi : i < ct) (ht : numS l = false) : takeNums en ct l0 = .error (placeS en l) := by
  unfold Rest at h
  rw [h]
  obtain ⟨k, hk⟩ : ∃ k, ct - i = k + 1 := ⟨ct - i - 1, by omega⟩
  rw [hk]
  cases l with
  | nil => rfl
  | cons t l => rw [takeNums, if_neg (by simpa [numS] using ht)]; rfl
theorem rest_end {en : Int} {ct i : Nat} {l0 l ns : List Tok} (h : Rest en ct i l0 l ns) (hi : i = ct) : takeNums en ct l0 = .ok (ns, l) := by
  unfold Rest at h
  rw [h, hi, Nat.sub_self]
  simp [takeNums]

set_option maxHeartbeats 2000000 in
set_option maxRecDepth 100000 in
theorem once_any (x : Rl) (hx : x.count ≤ 6) (sm : Bool) (pl en : Int) (r : Nat) (lv0 pv : Value) (l0 : List Tok) (ps : List Part) (hps : ps.length ≤ 1000000000) (w : World) (hst : St w r lv0 en pv l0 ps) :
    Calls Tryd.prog 104 #[.pointer (some ⟨r, 0, none⟩), rlV x, .bool sm, .int .i64 pl] w (OncePost w r en (onceS en x sm pl l0 ps)) := by
  have HST := Lib.hid hst
  have hon := on_start (x := x) (sm := sm) (pl := pl) hst
  have HON := Lib.hid hon
  clear hst hon
  obtain ⟨nm, ct, kn⟩ := x
  dsimp only at hx
  unfold rlV
  dsimp only at HON ⊢
  go_enter Tryd.func104, Tryd.ntmps104
  go_wp2
  go_loopw [15] (fun i wr => ∃ (k : Nat) (lv nv : Value) (l ns : List Tok), i = .int .i64 k ∧ k ≤ ct ∧ ns.length = k ∧ Rest en ct k l0 l ns ∧ On w wr r (w.heap.size + 1) ⟨nm, ct, kn⟩ sm pl en lv pv nv l ns) (fun i _ => ct - (intOf i).toNat)
  case atStart => exact ⟨0, lv0, .slice none 0 0, l0, [], rfl, by omega, rfl, rest_start _ _ _, HON.out⟩
  case round =>
    obtain ⟨k, lv, nv, l, ns, rfl, hk, hns, hR, hO⟩ := hrel
    have HR := Lib.hid hR
    have HO := Lib.hid hO
    have HNS := Lib.hid hns
    clear hR hO hns
    by_cases hkc : k < ct
    · have hnum := number_yes r lv pv (.pointer none) en l r wr HO.out.rd HO.out.tok
      have hpla := place_any r lv pv (.pointer none) en l r wr HO.out.rd HO.out.tok
      cases hn : numS l with
      | false =>
        rw [hn] at hnum
        go_wp2_with (first
          | (go_at_call 105; (with_reducible refine hnum.mono ?_); rintro e w1 ⟨rfl, rfl⟩)
          | (go_at_call 106; (with_reducible refine hpla.mono ?_); rintro e w1 ⟨rfl, rfl⟩)
          | (go_at_call 79; (with_reducible refine (fail_any r lv pv (.pointer none) en _ _ HO.out.rd).mono ?_); rintro e w1 ⟨rfl, hb1, hk1, hbad⟩; have HB1 := Lib.hid (on_bad HST.out HO.out hb1 hk1); have HBAD := Lib.hid hbad; clear hb1 hk1 hbad))
        refine bodyPost_ret (v := .tuple #[]) (by simp [results, Tryd.results104, go_sem]) rfl ⟨rfl, HB1.out.1, HB1.out.2, ?_⟩
        rw [onceS, rest_bad HR.out hkc hn]
        exact ⟨_, _, HBAD.out⟩
      | true =>
        obtain ⟨t, l', rfl, ht⟩ : ∃ t l', l = t :: l' ∧ t.kind = 2 := by
          cases l with
          | nil => simp [numS] at hn
          | cons t l' => exact ⟨t, l', rfl, by simpa [numS] using hn⟩
        obtain ⟨tb, to', tc, rfl, htc, htb, htk, htl⟩ := HO.out.tok.cons
        have htk' := Lib.hid htk
        rw [hn] at hnum
        have HT := Lib.hid ht
        have HTL := Lib.hid htl
        clear hpla htk hn ht htl
        obtain ⟨kd0, s0, n0, p0⟩ := t
        obtain ⟨q0, q1, q2, q3⟩ := htk'.out
        dsimp only at q0 q1 q2 q3
        clear htk'
        obtain ⟨⟨c0, c1, c2, c3⟩, cf⟩ := HO.out.rd.all
        have g5 : wr.cell? ⟨w.heap.size + 1, 5, none⟩ = some nv := by rw [heap_cell HO.out.part]; rfl
        have g5' : ∀ o, (wr.alloc o).cell? ⟨w.heap.size + 1, 5, none⟩ = some nv := fun o => ((Bel.refl wr).alloc o).cell g5
        have hmx : ns.length + 1 ≤ maxLen := by have := HNS.out; unfold maxLen; omega
        have hmb : (ns.length + 1) * 40 ≤ 140737488355328 := by have := HNS.out; omega
        have hbs : w.heap.size + 1 + 1 ≤ wr.heap.size := by have := heap_lt HO.out.part; omega
        go_wp2_with (first
          | (go_at_call 105; (with_reducible refine hnum.mono ?_); rintro e w1 ⟨rfl, rfl⟩))
        go_region_law (refine step_push (by rfl) (.tmp 25) (.tmp 32) 67 (by rfl) (w.heap.size + 1 + 1) 106 _ 4 40 Tryd.underlying67 infoTok (by rfl) (by decide) nv ns.length (toksC ns) (by rfl) (Bel.own ((Bel.refl _).drew.alloc _) HO.out.own) _ (0, 0) _ (by rfl) (heap_alloc_new _ _) (by rfl) (by simp [Value.oneCell']) hmx hmb (by simp; omega) ?_; intro g' cap w1 ho1 hg1; have hmid := on_mid HO.out ((Bel.refl _).drew.alloc _) hg1; have m1 := hmid.1; have m2 := hmid.2.1; have m3 := hmid.2.2.1; have m4 := hmid.2.2.2; clear hmid)
        all_goals
          have HS := Lib.hid (fun lv' hl' => on_step (nv' := .slice (some ⟨g', 0, none⟩) (ns.length + 1) cap) (lv' := lv') HO.out (by first | exact ((Bel.refl _).drew.alloc _) | exact ((Bel.refl _).alloc _).drew) hg1 ho1 hl')
          clear ho1 hg1
          go_wp2
          go_roundw
          case rel => exact ⟨k + 1, _, _, l', _, rfl, by omega, by rw [List.length_append, HNS.out]; rfl, rest_step HR.out hkc HT.out, HS.out _ HTL.out⟩
          case measure => simp [intOf]; omega
    · obtain rfl : k = ct := by omega
      obtain ⟨qs, hqs, hqo, hqn⟩ := HST.out.2.2
      have HQS := Lib.hid hqs
      have HQO := Lib.hid hqo
      have HQN := Lib.hid hqn
      clear hqs hqo hqn
      obtain ⟨⟨c0, c1, c2, c3⟩, cf⟩ := HO.out.rd.all
      have gp := fun j => heap_cell HO.out.part j
      have g0 : wr.cell? ⟨w.heap.size + 1, 0, none⟩ = some (.int .u8 nm) := gp 0
      have g1 : wr.cell? ⟨w.heap.size + 1, 1, none⟩ = some (.int .i64 k) := gp 1
      have g2 : wr.cell? ⟨w.heap.size + 1, 2, none⟩ = some (.int .i64 kn) := gp 2
      have g3 : wr.cell? ⟨w.heap.size + 1, 3, none⟩ = some (.bool sm) := gp 3
      have g4 : wr.cell? ⟨w.heap.size + 1, 4, none⟩ = some (.int .i64 pl) := gp 4
      have g5 : wr.cell? ⟨w.heap.size + 1, 5, none⟩ = some nv := gp 5
      have c2' : ∀ o, (wr.alloc o).cell? ⟨r, 2, none⟩ = some pv := fun o => ((Bel.refl wr).alloc o).cell c2
      clear gp
      have hmx : ps.length + 1 ≤ maxLen := by unfold maxLen; omega
      have hmb : (ps.length + 1) * 64 ≤ 140737488355328 := by omega
      have hbs : r + 1 ≤ wr.heap.size := by have := heap_lt HO.out.rd; omega
      have hnv : nv.oneCell' = true := by
        rcases HO.out.own.2 with ⟨h, _⟩ | ⟨g, cap, cur, h, _⟩ <;> rw [h] <;> rfl
      have hall : ∀ u ∈ (#[.int .u8 nm, .int .i64 k, .int .i64 kn, .bool sm, .int .i64 pl, nv] : Array Value).toList, u.oneCell' = true := by
        intro u hu
        rcases List.mem_cons.1 hu with rfl | hu
        · rfl
        rcases List.mem_cons.1 hu with rfl | hu
        · rfl
        rcases List.mem_cons.1 hu with rfl | hu
        · rfl
        rcases List.mem_cons.1 hu with rfl | hu
        · rfl
        rcases List.mem_cons.1 hu with rfl | hu
        · rfl
        rw [List.mem_singleton.1 hu]
        exact hnv
      have HALL := Lib.hid hall
      clear hall
      have HOWN : Hid (wr.ownsRow (r + 1) 123 6 pv ps.length (partsC qs)) := (PRow.keep' HO.out.keep HQO.out)
      go_wp2
      go_region_law (refine step_push (by rfl) (.tmp 48) (.tmp 50) 111 (by rfl) (r + 1) 123 _ 6 64 Tryd.underlying111 infoPart (by rfl) (by decide) pv ps.length (partsC qs) (by rfl) (Bel.own ((Bel.refl _).drew.alloc _) HOWN.out) _ (0, 0) _ (by rfl) (heap_alloc_new _ _) (by rfl) HALL.out hmx hmb (by simp; omega) ?_; intro g' cap w1 ho1 hg1; have hend := on_fin HO.out ((Bel.refl _).drew.alloc _) hg1 HQO.out; have m1 := hend.1; have m2 := hend.2; clear hend)
      all_goals
        have HE := Lib.hid (on_end (ns := ns) HST.out HO.out (by first | exact ((Bel.refl _).drew.alloc _) | exact ((Bel.refl _).alloc _).drew) hg1 ho1 HQS.out HQO.out HQN.out rfl)
        clear ho1 hg1
        refine bodyPost_end (v := .tuple #[]) (by simp [results, Tryd.results104, go_sem]) rfl ⟨rfl, HE.out.2.1, HE.out.2.2, ?_⟩
        rw [onceS, rest_end HR.out rfl]
        exact ⟨_, _, HE.out.1⟩
end Go.Proofs.YtefajplbgmikdaaDoor
