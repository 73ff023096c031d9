/-
  The walk of the reader's read.
-/
import Derived.Test.YtefajplbgmikdaaDoorCmj3
namespace Go.Proofs.YtefajplbgmikdaaDoor
open Go.RowKit

theorem st_drop {w : World} {r : Nat} {lv lv' pv : Value} {en : Int} {t : Tok} {l : List Tok} {ps : List Part} (h : St w r lv en pv (t :: l) ps) (hl : TokRow w r lv' l) : St (w.setCell ⟨r, 0, none⟩ lv') r lv' en pv l ps ∧ Below r w (w.setCell ⟨r, 0, none⟩ lv') ∧ Kp w (w.setCell ⟨r, 0, none⟩ lv') := by
  obtain ⟨h1, h2, h3⟩ := h
  have hb : Below r w (w.setCell ⟨r, 0, none⟩ lv') := (Below.refl r w).setCell (p := ⟨r, 0, none⟩) (Nat.le_refl _) _
  have hk : KeepBut r w (w.setCell ⟨r, 0, none⟩ lv') := fun k _ hkr => Below.heap_setCell _ _ _ _ (by simpa using hkr)
  exact ⟨⟨heap_set h1 0 lv', hl.below hb, h3.keep hk⟩, hb, hk.kp ⟨_, _, h1⟩⟩
theorem bad_drop {w : World} {r : Nat} {lv lv' pv : Value} {en a : Int} (h : Bad w r lv en pv a) : Bad (w.setCell ⟨r, 0, none⟩ lv') r lv' en pv a ∧ Below r w (w.setCell ⟨r, 0, none⟩ lv') ∧ Kp w (w.setCell ⟨r, 0, none⟩ lv') := by
  obtain ⟨b, h1, h2, h3⟩ := h
  have hb : Below r w (w.setCell ⟨r, 0, none⟩ lv') := (Below.refl r w).setCell (p := ⟨r, 0, none⟩) (Nat.le_refl _) _
  have hk : KeepBut r w (w.setCell ⟨r, 0, none⟩ lv') := fun k _ hkr => Below.heap_setCell _ _ _ _ (by simpa using hkr)
  exact ⟨⟨b, heap_set h1 0 lv', h2, (Below.heap_setCell _ _ _ _ (by simp; omega)).trans h3⟩, hb, hk.kp ⟨_, _, h1⟩⟩

theorem toList_mk (l : List UInt8) : (⟨l.toArray⟩ : ByteArray).toList = l := by
  simp
set_option maxHeartbeats 1000000 in
set_option maxRecDepth 100000 in
theorem read_none (en : Int) (r : Nat) (lv pv : Value) (w : World) (hst : St w r lv en pv [] []) :
    Calls Tryd.prog 62 #[.pointer (some ⟨r, 0, none⟩)] w (ReadPost w r en (readAll en [])) := by
  have HST := Lib.hid hst
  obtain ⟨⟨r0, r1, r2, r3⟩, _⟩ := hst.1.all
  obtain ⟨p0, c0, rfl, _⟩ := hst.2.1
  have hfail := fail_any r _ pv (.pointer none) en en w HST.out.1
  clear hst
  go_enter Tryd.func62, Tryd.ntmps62
  go_wp2_with (first
    | (go_at_call 79; (with_reducible refine hfail.mono ?_); rintro e w2 ⟨rfl, hb2, hk2, hbad2⟩; have HB2 := Lib.hid hb2; have HK2 := Lib.hid hk2; have HBAD2 := Lib.hid hbad2; clear hb2 hk2; (obtain ⟨bb, hrd2, hlt2, hbb2⟩ := hbad2); (obtain ⟨⟨z0, z1, z2, z3⟩, zf⟩ := hrd2.all); clear hrd2 hbb2))
  have HEND : Hid (ReadPost w r en (readAll en []) (.returned (.tuple #[])) w2) := ⟨rfl, HB2.out, HK2.out.kp ⟨_, _, HST.out.1⟩, by unfold readAll; simp only [if_true]; exact ⟨_, _, HBAD2.out⟩⟩
  go_loopg [] 0 (fun gf wx => wx = w2)
  case atStart => rfl
  case round =>
    subst hrel
    go_wp2
    exact bodyPost_end (v := .tuple #[]) (by simp [results, Tryd.results62, go_sem]) rfl HEND.out

set_option maxHeartbeats 4000000 in
set_option maxRecDepth 100000 in
theorem read_any (en : Int) (r : Nat) (lv pv : Value) (l : List Tok) (w : World) (hl : wt l ≤ 800000000) (hp : ∀ t ∈ l, TkOk t) (hr : Rul w) (hst : St w r lv en pv l []) (hg : 2 < r) :
    Calls Tryd.prog 62 #[.pointer (some ⟨r, 0, none⟩)] w (ReadPost w r en (readAll en l)) := by
  by_cases hl0 : l = []
  · subst hl0
    exact read_none en r lv pv w hst
  have hRA : readAll en l = readS en l.length l [] := by unfold readAll; rw [if_neg hl0]
  obtain ⟨R, hR⟩ : ∃ R, readAll en l = R := ⟨_, rfl⟩
  rw [hR] at hRA ⊢
  have HOUT : Hid (Out w w r en R l.length) := ⟨Below.refl _ _, Kp.refl _, .inl ⟨lv, pv, l, [], Nat.le_refl _, by simpa using hl, hp, hst, hRA⟩⟩
  have HRUL : Hid (∀ V, Below r w V → Rul V) := fun V h => hr.below h hg
  obtain ⟨⟨r0, r1, r2, r3⟩, _⟩ := hst.1.all
  obtain ⟨p0, c0, rfl, _⟩ := hst.2.1
  have hln : ((l.length : Int) == 0) = false := by
    have := List.length_pos_iff.2 hl0
    simp; omega
  clear hst hr hR hRA hp
  go_enter Tryd.func62, Tryd.ntmps62
  go_wp2
  clear r0 r1 r2 r3
  go_loopg [] l.length (fun gf wx => Out w wx r en R gf)
  case atStart => exact HOUT.out
  case round =>
    obtain ⟨hbl, hkp, hst⟩ := hrel
    have HBL := Lib.hid hbl
    have HKP := Lib.hid hkp
    clear hbl hkp
    rcases hst with ⟨lv1, pv1, l1, ps1, hl1, hw1, hp1, hst1, hR1⟩ | ⟨rfl, lv1, pv1, a1, hbad1, hR1⟩
    · have HST1 := Lib.hid hst1
      have HR1 := Lib.hid hR1
      obtain ⟨⟨r0, r1, r2, r3⟩, rf⟩ := hst1.1.all
      clear hst1 hR1
      cases l1 with
      | nil =>
        obtain ⟨p1, c1, rfl, _⟩ := HST1.out.2.1
        have HEND : Hid (ReadPost w r en R (.returned (.tuple #[])) wr) := ⟨rfl, HBL.out, HKP.out, by rw [HR1.out, read_nil]; exact ⟨_, _, HST1.out.1, HST1.out.2.2⟩⟩
        go_wp2
        exact bodyPost_end (v := .tuple #[]) (by simp [results, Tryd.results62, go_sem]) rfl HEND.out
      | cons t l2 =>
        obtain ⟨g', rfl⟩ : ∃ g', gk = g' + 1 := ⟨gk - 1, by simp at hl1; omega⟩
        obtain ⟨tb, to', tc, rfl, htc, htb, ⟨q0, q1, q2, q3⟩, htl⟩ := HST1.out.2.1.cons
        obtain ⟨p1, hpp⟩ : ∃ p1, (if tc = 1 then some (⟨tb, to', none⟩ : Addr) else some ⟨tb, to' + 4, none⟩) = p1 := ⟨_, rfl⟩
        rw [hpp] at htl
        have HTL := Lib.hid htl
        clear htl
        have hlp : decide ((0 : Int) < (l2.length : Int) + 1) = true := decide_eq_true (by omega)
        have hpt := hp1 t (by simp)
        have hp2 : Hid (∀ t ∈ l2, TkOk t) := fun x hx => hp1 x (by simp [hx])
        have HPT := Lib.hid hpt
        clear hp1 hpt
        have hwt : ps1.length + (wt l2 + t.s.length + 1) ≤ 800000000 := hw1
        have hll : l2.length ≤ g' := by simp at hl1; omega
        clear hw1 hl1
        have HST0 : Hid (∀ o, St (wr.alloc o) r (.slice (some ⟨tb, to', none⟩) (l2.length + 1) tc) en pv1 (t :: l2) ps1) := fun o => st_bel HST1.out ((Bel.refl wr).alloc o)
        obtain ⟨kd0, s0, n0, pl0⟩ := t
        dsimp only at q0 q1 q2 q3 hwt
        have q0' : ∀ o, (wr.alloc o).cell? ⟨r, 0, none⟩ = some (.slice (some ⟨tb, to', none⟩) (l2.length + 1) tc) := fun o => by rw [heap_cell (HST0.out o).1]; rfl
        have r3' : ∀ o, (wr.alloc o).cell? ⟨r, 3, none⟩ = some (.pointer none) := fun o => by rw [heap_cell (HST0.out o).1]; rfl
        have rf' : ∀ o j, (wr.alloc o).frozen? ⟨r, j, none⟩ = false := fun o j => heap_frozen (HST0.out o).1 j
        have hfail := fun o (a : Int) => fail_any r _ pv1 (.pointer none) en a (wr.alloc o) (HST0.out o).1
        by_cases hk1 : kd0 = 1
        · subst hk1
          by_cases hs0 : s0 = []
          · subst hs0
            have HR2 : Hid (R = .error pl0) := by unfold Hid; rw [HR1.out, readS]; simp
            go_wp2_with (first
              | (go_at_call 79; (with_reducible refine (hfail _ _).mono ?_); rintro e w2 ⟨rfl, hb2, hk2, hbad2⟩; have HB2 := Lib.hid hb2; have HK2 := Lib.hid hk2; have HBAD2 := Lib.hid hbad2; clear hb2 hk2; (obtain ⟨bb, hrd2, hlt2, hbb2⟩ := hbad2); (obtain ⟨⟨z0, z1, z2, z3⟩, zf⟩ := hrd2.all); clear hrd2 hbb2))
            have hV := bad_drop (lv' := .slice p1 l2.length (tc - 1)) HBAD2.out
            have HV := Lib.hid hV
            have hT : Tb w2 wr.heap.size ⟨1, [], n0, pl0⟩ := (HK2.out _ (by simp) (by have := heap_lt HST1.out.1; omega)).trans (heap_alloc_new _ _)
            have hT2 := (hT.kp hV.2.2).all
            have hT3 := hT2.2.1
            clear hV hT hT2
            have HO : Hid (Out w (w2.setCell ⟨r, 0, none⟩ (.slice p1 l2.length (tc - 1))) r en R 0) :=
              ⟨HBL.out.trans (((Below.refl r wr).alloc (Nat.le_of_lt (heap_lt HST1.out.1)) _).trans (HB2.out.trans HV.out.2.1)), Kp.trans HKP.out (Kp.trans (Bel.kp ((Bel.refl wr).alloc _)) (Kp.trans (HK2.out.kp ⟨_, _, (HST0.out _).1⟩) HV.out.2.2)), .inr ⟨rfl, _, _, _, HV.out.1, HR2.out⟩⟩
            generalize w2.setCell ⟨r, 0, none⟩ (.slice p1 l2.length (tc - 1)) = V at HV HO hT3 ⊢
            clear HV
            go_loopg [3] 0 (fun gf i wx => i = .int .i64 0 ∧ wx = V)
            case atStart => exact ⟨rfl, rfl⟩
            case round =>
              obtain ⟨rfl, rfl⟩ := hrel
              go_wp2
              go_roundg 0
              case measure => omega
              case rel => exact HO.out
          · have HR2 : Hid (R = match wordS en s0 pl0 l2 ps1 with | .ok (l', ps') => readS en g' l' ps' | .error e => .error e) := by unfold Hid; rw [HR1.out, readS, if_neg (by simp), if_neg hs0]; rfl
            obtain ⟨sb, hsb⟩ : ∃ sb : ByteArray, (⟨s0.toArray⟩ : ByteArray) = sb := ⟨_, rfl⟩
            have hsl : sb.size = s0.length := by rw [← hsb]; rfl
            have hse : sb.toList.isEmpty = false := by
              rw [← hsb, toList_mk]
              cases s0 with
              | nil => exact absurd rfl hs0
              | cons a b => rfl
            rw [hsb] at q1
            have HSB := Lib.hid hsb
            clear hsb
            have hdr := fun o => st_drop (lv' := .slice p1 l2.length (tc - 1)) (HST0.out o) (HTL.out.below ((Below.refl r wr).alloc (Nat.le_of_lt (heap_lt HST1.out.1)) o))
            have HDR := Lib.hid hdr
            clear hdr
            go_wp2
            have HT0 : Hid (Tb ((wr.alloc (.cells #[.int .i64 1, .string sb, .int .i64 n0, .int .i64 pl0] 106)).setCell ⟨r, 0, none⟩ (.slice p1 l2.length (tc - 1))) wr.heap.size ⟨1, s0, n0, pl0⟩) := by
              have : Tb (wr.alloc (.cells #[.int .i64 1, .string sb, .int .i64 n0, .int .i64 pl0] 106)) wr.heap.size ⟨1, s0, n0, pl0⟩ := by
                unfold Tb
                dsimp only
                rw [HSB.out]
                exact heap_alloc_new _ _
              exact this.kp (HDR.out _).2.2
            have HI0 : Hid (Inn w ((wr.alloc (.cells #[.int .i64 1, .string sb, .int .i64 n0, .int .i64 pl0] 106)).setCell ⟨r, 0, none⟩ (.slice p1 l2.length (tc - 1))) r wr.heap.size ⟨1, s0, n0, pl0⟩ en R g' 0) :=
              ⟨HBL.out.trans (((Below.refl r wr).alloc (Nat.le_of_lt (heap_lt HST1.out.1)) _).trans (HDR.out _).2.1), Kp.trans HKP.out (Kp.trans (Bel.kp ((Bel.refl wr).alloc _)) (HDR.out _).2.2), HT0.out, Nat.zero_le _,
                .inl ⟨_, _, l2, ps1, hll, by dsimp only; omega, hp2.out, (HDR.out _).1, by rw [HR2.out]; simp; rfl⟩⟩
            generalize (wr.alloc (.cells #[.int .i64 1, .string sb, .int .i64 n0, .int .i64 pl0] 106)).setCell ⟨r, 0, none⟩ (.slice p1 l2.length (tc - 1)) = V at HI0 HT0 ⊢
            have hTlt : r < wr.heap.size := heap_lt HST1.out.1
            generalize wr.heap.size = T at HI0 HT0 hTlt ⊢
            clear HT0 HDR HST0 hfail rf' r3' q0' r0 r1 r2 r3 rf q0 q1 q2 q3 HST1 HR1 HR2
            go_loopg [3] s0.length (fun gf i wx => ∃ k : Nat, i = .int .i64 k ∧ s0.length ≤ k + gf ∧ Inn w wx r T ⟨1, s0, n0, pl0⟩ en R g' k)
            case atStart => exact ⟨0, rfl, by omega, HI0.out⟩
            case round =>
              obtain ⟨k, rfl, hkf, hbl2, hkp2, hT2, hki, hst2⟩ := hrel
              have HBL2 := Lib.hid hbl2
              have HKP2 := Lib.hid hkp2
              have HT2 := Lib.hid hT2
              obtain ⟨t0, t1, t2, t3⟩ := hT2.all
              dsimp only at t0 t1 t2 t3 hki
              rw [HSB.out] at t1
              clear hbl2 hkp2 hT2
              rcases hst2 with ⟨lv2, pv2, l3, ps3, hl3, hw3, hp3, hst3, hR3⟩ | ⟨lv2, pv2, a2, hbad2, hR3⟩
              · have HST3 := Lib.hid hst3
                have HR3 := Lib.hid hR3
                have HP3 := Lib.hid hp3
                obtain ⟨⟨z0, z1, z2, z3⟩, _⟩ := hst3.1.all
                clear hst3 hR3 hp3
                dsimp only at hw3
                by_cases hks : k < s0.length
                · have hks' : k < sb.size := by omega
                  obtain ⟨gk', rfl⟩ : ∃ g, gk = g + 1 := ⟨gk - 1, by omega⟩
                  have hpb := HPT.out.1
                  have hpb2 := HPT.out.2.1
                  have hpb3 := HPT.out.2.2.1
                  dsimp only at hpb hpb2 hpb3
                  obtain ⟨cb, hcb⟩ : ∃ cb, s0[k]'hks = cb := ⟨_, rfl⟩
                  have hix : sb[k]'hks' = cb := by
                    rw [← hcb]
                    have := HSB.out
                    subst this
                    rfl
                  have hcl : cb.toNat < 256 := cb.toNat_lt
                  have hlet : Calls Tryd.prog 80 #[.pointer (some ⟨r, 0, none⟩), .int .u8 cb.toNat, .int .i64 (pl0 + k), .bool (decide ((k : Int) + 1 < (s0.length : Int)))] wr.drew (OncePost wr.drew r en (letterS en cb.toNat (pl0 + k) (decide (k + 1 < s0.length)) l3 ps3)) :=
                    (show decide ((k : Int) + 1 < (s0.length : Int)) = decide (k + 1 < s0.length) from decide_eq_decide.2 (by omega)) ▸ letter_any cb.toNat hcl _ (pl0 + k) en (by omega) (by omega) r lv2 pv2 l3 ps3 (by omega) wr.drew (HRUL.out _ (HBL2.out.drew)) (st_bel HST3.out (Bel.refl _).drew) hg
                  have hwr1 : IntKind.i64.wrap (pl0 + k) = pl0 + k := IntWalk.i64_in _ (by omega)
                  have hwr2 : IntKind.i64.wrap ((k : Int) + 1) = (k : Int) + 1 := IntWalk.i64_in _ (by omega)
                  have HLET := Lib.hid hlet
                  have HCB := Lib.hid hcb
                  clear hlet hcb
                  go_wp2
                  go_region_law (first
                    | (go_simp; go_at_call 80; (with_reducible refine (HLET.out).mono ?_); rintro e w9 ho9; (have he9 := ho9.1); subst he9))
                  all_goals
                    have HIN : Hid (Inn w w9 r T ⟨1, s0, n0, pl0⟩ en R g' (k + 1)) := inn_step (t := ⟨1, s0, n0, pl0⟩) (w1 := wr.drew) hks (HBL2.out.drew) (Kp.trans HKP2.out (Bel.kp (Bel.refl _).drew)) (HT2.out.kp (Bel.kp (Bel.refl _).drew)) (by dsimp only; rw [HCB.out]; exact ho9) hl3 hw3 HP3.out HR3.out
                    clear ho9
                    go_wp2
                    go_roundg gk'
                    case measure => omega
                    case rel => exact ⟨k + 1, rfl, by omega, HIN.out⟩
                · obtain rfl : k = s0.length := by omega
                  have HO : Hid (Out w wr r en R g') := ⟨HBL2.out, HKP2.out, .inl ⟨lv2, pv2, l3, ps3, hl3, by omega, HP3.out, HST3.out, by rw [HR3.out]; simp [wordS]⟩⟩
                  go_wp2
                  go_roundg g'
                  case measure => omega
                  case rel => exact HO.out
              · have HO : Hid (Out w wr r en R 0) := ⟨HBL2.out, HKP2.out, .inr ⟨rfl, lv2, pv2, a2, hbad2, hR3⟩⟩
                obtain ⟨b9, hrd9, _, _⟩ := hbad2
                obtain ⟨⟨z0, z1, z2, z3⟩, _⟩ := hrd9.all
                clear hrd9 hR3
                by_cases hks : k < s0.length
                · go_wp2
                  go_roundg 0
                  case measure => omega
                  case rel => exact HO.out
                · obtain rfl : k = s0.length := by omega
                  go_wp2
                  go_roundg 0
                  case measure => omega
                  case rel => exact HO.out
        · have HR2 : Hid (R = .error pl0) := by unfold Hid; rw [HR1.out, readS, if_pos hk1]
          have hk1' : (kd0 != 1) = true := by simpa using hk1
          clear hk1
          go_wp2_with (first
            | (go_at_call 79; (with_reducible refine (hfail _ _).mono ?_); rintro e w2 ⟨rfl, hb2, hk2, hbad2⟩; have HB2 := Lib.hid hb2; have HK2 := Lib.hid hk2; have HBAD2 := Lib.hid hbad2; clear hb2 hk2 hbad2))
          exact bodyPost_ret (v := .tuple #[]) (by simp [results, Tryd.results62, go_sem]) rfl ⟨rfl, HBL.out.trans (((Below.refl r wr).alloc (Nat.le_of_lt (heap_lt HST1.out.1)) _).trans HB2.out), Kp.trans HKP.out (Kp.trans (Bel.kp ((Bel.refl wr).alloc _)) (HK2.out.kp ⟨_, _, (HST0.out _).1⟩)), by rw [HR2.out]; exact ⟨_, _, HBAD2.out⟩⟩
    · have HEND : Hid (ReadPost w r en R (.returned (.tuple #[])) wr) := ⟨rfl, HBL.out, HKP.out, by rw [hR1]; exact ⟨_, _, hbad1⟩⟩
      obtain ⟨b9, hrd9, _, _⟩ := hbad1
      obtain ⟨⟨r0, r1, r2, r3⟩, _⟩ := hrd9.all
      clear hrd9 hR1
      go_wp2
      exact bodyPost_end (v := .tuple #[]) (by simp [results, Tryd.results62, go_sem]) rfl HEND.out
end Go.Proofs.YtefajplbgmikdaaDoor

/-
  The walks of path.in and of the pen's mirrored.
-/
namespace Go.Proofs.YtefajplbgmikdaaDoor
open Go.RowKit

theorem in_any (v : Int) (w : World) : Calls Tryd.prog 58 #[.int .i64 v] w fun e w' => e = .returned (.bool (inR v)) ∧ w = w' := by
  unfold inR
  by_cases h1 : -2147483648 < v
  · by_cases h2 : v < 2147483648
    · rw [decide_eq_true ⟨h1, h2⟩]
      go_enter Tryd.func58, Tryd.ntmps58
      go_wp2
      go_ret
      exact ⟨rfl, rfl⟩
    · rw [decide_eq_false (fun h => h2 h.2)]
      go_enter Tryd.func58, Tryd.ntmps58
      go_wp2
      go_ret
      exact ⟨rfl, rfl⟩
  · rw [decide_eq_false (fun h => h1 h.1)]
    go_enter Tryd.func58, Tryd.ntmps58
    go_wp2
    go_ret
    exact ⟨rfl, rfl⟩

/-- A coordinate's range. -/
def Co (v : Int) : Prop := -2147483648 < v ∧ v < 2147483648
theorem inR_iff {v : Int} : inR v = true ↔ Co v := by unfold inR Co; simp
def sgC (s : Sg) : List Value := [.int .i64 s.kind] ++ s.v.map (Value.int .i64) ++ [.int .i64 s.w]
/-- A part that lies in eight cells, its numbers in range. -/
def SgOk (s : Sg) : Prop := s.v.length = 6 ∧ ∀ v ∈ s.v, Co v
structure PenOk (p : Pen) : Prop where
  x : Co p.x
  y : Co p.y
  fx : Co p.fx
  fy : Co p.fy
  last : SgOk p.last
def penC (p : Pen) : List Value := [.int .i64 p.x, .int .i64 p.y, .int .i64 p.fx, .int .i64 p.fy] ++ sgC p.last
/-- The pen's box. -/
def Pn (w : World) (q : Nat) (p : Pen) : Prop := w.heap[q]? = some (.cells (penC p).toArray 119 (0, 0))
theorem six {l : List Int} (h : l.length = 6) : ∃ a b c d e f, l = [a, b, c, d, e, f] := by
  match l, h with
  | [a, b, c, d, e, f], _ => exact ⟨a, b, c, d, e, f, rfl⟩

set_option maxHeartbeats 1000000 in
set_option maxRecDepth 100000 in
theorem mirrored_any (p : Pen) (hp : PenOk p) (k : Int) (q : Nat) (w : World) (h : Pn w q p) :
    Calls Tryd.prog 81 #[.pointer (some ⟨q, 0, none⟩), .int .i64 k] w fun e w' => e = .returned (.tuple #[.int .i64 (mirrorS p k).1, .int .i64 (mirrorS p k).2]) ∧ Bel w w' := by
  obtain ⟨x, y, fx, fy, ⟨lk, lv, lw⟩⟩ := p
  obtain ⟨⟨hx1, hx2⟩, ⟨hy1, hy2⟩, _, _, hl6, hlv⟩ := hp
  dsimp only at hx1 hx2 hy1 hy2 hl6 hlv
  obtain ⟨v0, v1, v2, v3, v4, v5, rfl⟩ := six hl6
  have a0 := hlv v0 (by simp)
  have a1 := hlv v1 (by simp)
  have a2 := hlv v2 (by simp)
  have a3 := hlv v3 (by simp)
  unfold Co at a0 a1 a2 a3
  obtain ⟨a01, a02⟩ := a0
  obtain ⟨a11, a12⟩ := a1
  obtain ⟨a21, a22⟩ := a2
  obtain ⟨a31, a32⟩ := a3
  have c0 : w.cell? ⟨q, 0, none⟩ = some (.int .i64 x) := by rw [heap_cell h]; rfl
  have c1 : w.cell? ⟨q, 1, none⟩ = some (.int .i64 y) := by rw [heap_cell h]; rfl
  have c4 : w.cell? ⟨q, 4, none⟩ = some (.int .i64 lk) := by rw [heap_cell h]; rfl
  have c5 : w.cell? ⟨q, 5, none⟩ = some (.int .i64 v0) := by rw [heap_cell h]; rfl
  have c6 : w.cell? ⟨q, 6, none⟩ = some (.int .i64 v1) := by rw [heap_cell h]; rfl
  have c7 : w.cell? ⟨q, 7, none⟩ = some (.int .i64 v2) := by rw [heap_cell h]; rfl
  have c8 : w.cell? ⟨q, 8, none⟩ = some (.int .i64 v3) := by rw [heap_cell h]; rfl
  clear hlv hl6 h
  by_cases hk : lk = k
  · subst hk
    by_cases h4 : lk = 4
    · subst h4
      have hm : mirrorS ⟨x, y, fx, fy, ⟨4, [v0, v1, v2, v3, v4, v5], lw⟩⟩ 4 = (2 * x - v2, 2 * y - v3) := rfl
      rw [hm]
      go_enter Tryd.func81, Tryd.ntmps81
      go_wp2_with fail
      go_quiet (fail)
      go_wp2
      go_ret2
      exact ⟨rfl, ⟨rfl, rfl, rfl, Nat.le_refl _, fun _ _ => rfl⟩⟩
    · have hm : mirrorS ⟨x, y, fx, fy, ⟨lk, [v0, v1, v2, v3, v4, v5], lw⟩⟩ lk = (2 * x - v0, 2 * y - v1) := by unfold mirrorS; rw [if_neg (by simp), if_neg h4]; rfl
      rw [hm]
      have h4' : (lk == 4) = false := by simpa using h4
      clear h4
      go_enter Tryd.func81, Tryd.ntmps81
      go_wp2_with fail
      go_quiet (fail)
      go_wp2
      go_ret2
      exact ⟨rfl, ⟨rfl, rfl, rfl, Nat.le_refl _, fun _ _ => rfl⟩⟩
  · have hm : mirrorS ⟨x, y, fx, fy, ⟨lk, [v0, v1, v2, v3, v4, v5], lw⟩⟩ k = (x, y) := by unfold mirrorS; rw [if_pos hk]
    rw [hm]
    have hk' : (lk != k) = true := by simpa using hk
    clear hk
    go_enter Tryd.func81, Tryd.ntmps81
    go_wp2_with fail
    go_quiet (fail)
    go_wp2
    go_ret2
    exact ⟨rfl, ⟨rfl, rfl, rfl, Nat.le_refl _, fun _ _ => rfl⟩⟩

end Go.Proofs.YtefajplbgmikdaaDoor
