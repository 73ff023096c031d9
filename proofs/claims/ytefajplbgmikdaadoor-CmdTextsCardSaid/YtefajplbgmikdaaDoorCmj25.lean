/-
  The walks of the two dec.
-/
import Derived.Test.YtefajplbgmikdaaDoorCmj10
import Derived.BigQuiet
namespace Go.Proofs.YtefajplbgmikdaaDoor
open Go.RowKit

def dgc (k : Nat) : UInt8 := UInt8.ofNat (48 + k % 10)
theorem one_digit (k : Nat) : strOfNums [48 + (k : Int) % 10] = ⟨#[dgc k]⟩ := by
  unfold strOfNums dgc
  have : (48 + (k : Int) % 10).toNat = 48 + k % 10 := by omega
  simp [this]
theorem bcat (c : UInt8) (l : List UInt8) : (⟨#[c]⟩ ++ ⟨l.toArray⟩ : ByteArray) = ⟨(c :: l).toArray⟩ := by
  apply ByteArray.ext
  simp
theorem ret_str {x y : ByteArray} (h : x = y) : Ending.returned (.string x) = Ending.returned (.string y) := by rw [h]
theorem dec_more {k : Nat} (h : ¬ (k / 10 = 0)) (l : List UInt8) : Lib.decDigits (k / 10) ++ (dgc k :: l) = Lib.decDigits k ++ l := by
  conv => rhs; rw [Lib.decDigits, dif_neg (by omega)]
  simp [dgc]
theorem dec_last {k : Nat} (h : k / 10 = 0) (l : List UInt8) : dgc k :: l = Lib.decDigits k ++ l := by
  rw [Lib.decDigits, dif_pos (by omega), dgc, Nat.mod_eq_of_lt (by omega)]
  rfl
theorem dec_short {n k : Nat} {l : List UInt8} (hn : n < 18446744073709551616) (h : Lib.decDigits k ++ l = Lib.decDigits n) : l.length ≤ 20 := by
  have := congrArg List.length h
  rw [List.length_append, Lib.decDigits_length n] at this
  have := Lib.nDigits_le20 n hn
  omega
theorem conv_one (W : World) (x : Int) : (convert 71 9 (.slice (some ⟨W.heap.size, 0, none⟩) 1 1)).run Tryd.prog (W.alloc (.cells #[.int .u8 x] 5)) = .ok (.string (strOfNums [x])) (W.alloc (.cells #[.int .u8 x] 5)) :=
  run_convert_bytes_arg (P := Tryd.prog) _ 71 5 Tryd.underlying71 Tryd.underlying5 W.heap.size 0 1 1 [x] rfl (fun i hi => by
      obtain rfl : i = 0 := by omega
      rw [World.cell?_alloc_at _ _ _ _ rfl]; rfl) 9 Tryd.underlying9

set_option maxHeartbeats 1000000 in
set_option maxRecDepth 100000 in
theorem lawdec_any (v : Int) (h : -4611686018427387904 ≤ v ∧ v ≤ 4611686018427387904) (w : World) :
    Calls Tryd.prog 19 #[.int .i64 v] w fun e w' => e = .returned (.string ⟨(Lib.itoa v).toArray⟩) ∧ Bel w w' := by
  have kc := conv_one
  by_cases hneg : v < 0
  · obtain ⟨n, hn⟩ : ∃ n : Nat, v = -(n : Int) := ⟨v.natAbs, by omega⟩
    have HI : Hid (Lib.itoa v = 45 :: Lib.decDigits n) := by unfold Hid; rw [hn]; exact Lib.itoa_neg n (by omega)
    rw [HI.out]
    subst hn
    have hw : IntKind.i64.wrap (- -(n : Int)) = n := by rw [Int.neg_neg]; exact IntWalk.i64_in _ (by omega)
    go_enter Tryd.func19, Tryd.ntmps19
    go_wp2
    go_loopw [3, 4] (fun s u wr => ∃ (k : Nat) (l : List UInt8), u = .int .i64 k ∧ s = .string ⟨l.toArray⟩ ∧ k ≤ n ∧ Hid (Lib.decDigits k ++ l = Lib.decDigits n) ∧ Bel w wr) (fun _ u _ => (intOf u).toNat)
    case atStart => exact ⟨n, [], by first | rfl | simp, rfl, Nat.le_refl _, (by simp : Lib.decDigits n ++ [] = _), Bel.refl _⟩
    case round =>
      obtain ⟨k, l, rfl, rfl, hk, hl, hb⟩ := hrel
      have hlen : l.length ≤ 20 := dec_short (by omega) hl.out
      have hd := one_digit k
      have HB := Lib.hid hb
      clear hb
      by_cases h0 : k / 10 = 0
      · have h0' : ((k : Int) / 10 == 0) = true := by simp; omega
        have hl2 : Hid (dgc k :: l = Lib.decDigits n) := (dec_last h0 l).trans hl.out
        clear h0 hl
        go_wp2
        go_ret
        exact ⟨by rw [← hl2.out]; exact ret_str (by rw [bcat, bcat]), HB.out.alloc _⟩
      · have h0' : ((k : Int) / 10 == 0) = false := by simp; omega
        have hl2 : Hid (Lib.decDigits (k / 10) ++ dgc k :: l = Lib.decDigits n) := (dec_more h0 l).trans hl.out
        have h0'' : 1 ≤ k / 10 := by omega
        clear h0 hl
        go_wp2
        go_roundw
        case rel => exact ⟨k / 10, dgc k :: l, by simp, by rw [bcat], by omega, hl2, HB.out.alloc _⟩
        case measure => simp [intOf]; omega
  · obtain ⟨n, hn⟩ : ∃ n : Nat, v = (n : Int) := ⟨v.natAbs, by omega⟩
    have HI : Hid (Lib.itoa v = Lib.decDigits n) := by unfold Hid; rw [hn]; exact Lib.itoa_nonneg n
    rw [HI.out]
    subst hn
    go_enter Tryd.func19, Tryd.ntmps19
    go_wp2
    go_loopw [3, 4] (fun s u wr => ∃ (k : Nat) (l : List UInt8), u = .int .i64 k ∧ s = .string ⟨l.toArray⟩ ∧ k ≤ n ∧ Hid (Lib.decDigits k ++ l = Lib.decDigits n) ∧ Bel w wr) (fun _ u _ => (intOf u).toNat)
    case atStart => exact ⟨n, [], rfl, rfl, Nat.le_refl _, (by simp : Lib.decDigits n ++ [] = _), Bel.refl _⟩
    case round =>
      obtain ⟨k, l, rfl, rfl, hk, hl, hb⟩ := hrel
      have hlen : l.length ≤ 20 := dec_short (by omega) hl.out
      have hd := one_digit k
      have HB := Lib.hid hb
      clear hb
      by_cases h0 : k / 10 = 0
      · have h0' : ((k : Int) / 10 == 0) = true := by simp; omega
        have hl2 : Hid (dgc k :: l = Lib.decDigits n) := (dec_last h0 l).trans hl.out
        clear h0 hl
        go_wp2
        go_ret
        exact ⟨by rw [← hl2.out]; exact ret_str (bcat _ _), HB.out.alloc _⟩
      · have h0' : ((k : Int) / 10 == 0) = false := by simp; omega
        have hl2 : Hid (Lib.decDigits (k / 10) ++ dgc k :: l = Lib.decDigits n) := (dec_more h0 l).trans hl.out
        have h0'' : 1 ≤ k / 10 := by omega
        clear h0 hl
        go_wp2
        go_roundw
        case rel => exact ⟨k / 10, dgc k :: l, by simp, by rw [bcat], by omega, hl2, HB.out.alloc _⟩
        case measure => simp [intOf]; omega

set_option maxHeartbeats 1000000 in
set_option maxRecDepth 100000 in
theorem refdec_any (v : Int) (h : -4611686018427387904 ≤ v ∧ v ≤ 4611686018427387904) (w : World) :
    Calls Tryd.prog 33 #[.int .i64 v] w fun e w' => e = .returned (.string ⟨(Lib.itoa v).toArray⟩) ∧ Bel w w' := by
  have kc := conv_one
  by_cases hneg : v < 0
  · obtain ⟨n, hn⟩ : ∃ n : Nat, v = -(n : Int) := ⟨v.natAbs, by omega⟩
    have HI : Hid (Lib.itoa v = 45 :: Lib.decDigits n) := by unfold Hid; rw [hn]; exact Lib.itoa_neg n (by omega)
    rw [HI.out]
    subst hn
    have hw : IntKind.i64.wrap (- -(n : Int)) = n := by rw [Int.neg_neg]; exact IntWalk.i64_in _ (by omega)
    go_enter Tryd.func33, Tryd.ntmps33
    go_wp2
    go_loopw [3, 4] (fun s u wr => ∃ (k : Nat) (l : List UInt8), u = .int .i64 k ∧ s = .string ⟨l.toArray⟩ ∧ k ≤ n ∧ Hid (Lib.decDigits k ++ l = Lib.decDigits n) ∧ Bel w wr) (fun _ u _ => (intOf u).toNat)
    case atStart => exact ⟨n, [], by first | rfl | simp, rfl, Nat.le_refl _, (by simp : Lib.decDigits n ++ [] = _), Bel.refl _⟩
    case round =>
      obtain ⟨k, l, rfl, rfl, hk, hl, hb⟩ := hrel
      have hlen : l.length ≤ 20 := dec_short (by omega) hl.out
      have hd := one_digit k
      have HB := Lib.hid hb
      clear hb
      by_cases h0 : k / 10 = 0
      · have h0' : ((k : Int) / 10 == 0) = true := by simp; omega
        have hl2 : Hid (dgc k :: l = Lib.decDigits n) := (dec_last h0 l).trans hl.out
        clear h0 hl
        go_wp2
        go_ret
        exact ⟨by rw [← hl2.out]; exact ret_str (by rw [bcat, bcat]), HB.out.alloc _⟩
      · have h0' : ((k : Int) / 10 == 0) = false := by simp; omega
        have hl2 : Hid (Lib.decDigits (k / 10) ++ dgc k :: l = Lib.decDigits n) := (dec_more h0 l).trans hl.out
        have h0'' : 1 ≤ k / 10 := by omega
        clear h0 hl
        go_wp2
        go_roundw
        case rel => exact ⟨k / 10, dgc k :: l, by simp, by rw [bcat], by omega, hl2, HB.out.alloc _⟩
        case measure => simp [intOf]; omega
  · obtain ⟨n, hn⟩ : ∃ n : Nat, v = (n : Int) := ⟨v.natAbs, by omega⟩
    have HI : Hid (Lib.itoa v = Lib.decDigits n) := by unfold Hid; rw [hn]; exact Lib.itoa_nonneg n
    rw [HI.out]
    subst hn
    go_enter Tryd.func33, Tryd.ntmps33
    go_wp2
    go_loopw [3, 4] (fun s u wr => ∃ (k : Nat) (l : List UInt8), u = .int .i64 k ∧ s = .string ⟨l.toArray⟩ ∧ k ≤ n ∧ Hid (Lib.decDigits k ++ l = Lib.decDigits n) ∧ Bel w wr) (fun _ u _ => (intOf u).toNat)
    case atStart => exact ⟨n, [], rfl, rfl, Nat.le_refl _, (by simp : Lib.decDigits n ++ [] = _), Bel.refl _⟩
    case round =>
      obtain ⟨k, l, rfl, rfl, hk, hl, hb⟩ := hrel
      have hlen : l.length ≤ 20 := dec_short (by omega) hl.out
      have hd := one_digit k
      have HB := Lib.hid hb
      clear hb
      by_cases h0 : k / 10 = 0
      · have h0' : ((k : Int) / 10 == 0) = true := by simp; omega
        have hl2 : Hid (dgc k :: l = Lib.decDigits n) := (dec_last h0 l).trans hl.out
        clear h0 hl
        go_wp2
        go_ret
        exact ⟨by rw [← hl2.out]; exact ret_str (bcat _ _), HB.out.alloc _⟩
      · have h0' : ((k : Int) / 10 == 0) = false := by simp; omega
        have hl2 : Hid (Lib.decDigits (k / 10) ++ dgc k :: l = Lib.decDigits n) := (dec_more h0 l).trans hl.out
        have h0'' : 1 ≤ k / 10 := by omega
        clear h0 hl
        go_wp2
        go_roundw
        case rel => exact ⟨k / 10, dgc k :: l, by simp, by rw [bcat], by omega, hl2, HB.out.alloc _⟩
        case measure => simp [intOf]; omega
end Go.Proofs.YtefajplbgmikdaaDoor

/-
  The walks of the reference's far, Used and Good.
-/
namespace Go.Proofs.YtefajplbgmikdaaDoor
open Go.RowKit

theorem far_any (v : Int) (b : Bool) (hb : inR v = b) (w : World) : Calls Tryd.prog 37 #[.int .i64 v] w fun e w' => e = .returned (.bool (!b)) ∧ w' = w := by
  subst hb
  unfold inR
  by_cases h1 : 2147483648 ≤ v
  · rw [decide_eq_false (by omega)]
    go_enter Tryd.func37, Tryd.ntmps37
    go_wp2
    go_ret
    exact ⟨rfl, rfl⟩
  · by_cases h2 : v ≤ -2147483648
    · rw [decide_eq_false (by omega)]
      go_enter Tryd.func37, Tryd.ntmps37
      go_wp2
      go_ret
      exact ⟨rfl, rfl⟩
    · rw [decide_eq_true (by omega)]
      go_enter Tryd.func37, Tryd.ntmps37
      go_wp2
      go_ret
      exact ⟨rfl, rfl⟩
def usedS (k : Int) : Int := if 1 ≤ k ∧ k ≤ 6 then (countK k : Nat) else -1
theorem used_any (k : Int) (w : World) : Calls Tryd.prog 20 #[.int .i64 k] w fun e w' => e = .returned (.int .i64 (usedS k)) ∧ w' = w := by
  by_cases h1 : k = 1
  · subst h1
    go_enter Tryd.func20, Tryd.ntmps20
    go_wp2
    go_ret
    exact ⟨rfl, rfl⟩
  by_cases h2 : k = 2
  · subst h2
    go_enter Tryd.func20, Tryd.ntmps20
    go_wp2
    go_ret
    exact ⟨rfl, rfl⟩
  by_cases h3 : k = 3
  · subst h3
    go_enter Tryd.func20, Tryd.ntmps20
    go_wp2
    go_ret
    exact ⟨rfl, rfl⟩
  by_cases h4 : k = 4
  · subst h4
    go_enter Tryd.func20, Tryd.ntmps20
    go_wp2
    go_ret
    exact ⟨rfl, rfl⟩
  by_cases h5 : k = 5
  · subst h5
    go_enter Tryd.func20, Tryd.ntmps20
    go_wp2
    go_ret
    exact ⟨rfl, rfl⟩
  by_cases h6 : k = 6
  · subst h6
    go_enter Tryd.func20, Tryd.ntmps20
    go_wp2
    go_ret
    exact ⟨rfl, rfl⟩
  · have hu : usedS k = -1 := by unfold usedS; rw [if_neg (by omega)]
    rw [hu]
    have e1 : (k == 1) = false := by simpa using h1
    have e2 : (k == 2) = false := by simpa using h2
    have e3 : (k == 3) = false := by simpa using h3
    have e4 : (k == 4) = false := by simpa using h4
    have e5 : (k == 5) = false := by simpa using h5
    have e6 : (k == 6) = false := by simpa using h6
    clear h1 h2 h3 h4 h5 h6
    go_enter Tryd.func20, Tryd.ntmps20
    go_wp2
    go_ret
    exact ⟨rfl, rfl⟩

/-- Whether what is left is good, behind a part of kind pk. -/
def restG : List Sg → Int → Bool
  | [], _ => true
  | s :: r, pk => decide (1 ≤ s.kind) && decide (s.kind ≤ 6) && !(decide (s.kind = 6) && decide (pk = 6)) && goodN (countK s.kind) s.v 0 && goodW s && restG r s.kind
theorem restG_eq : ∀ (l : List Sg) (pk : Int), restG l pk = (l.all goodOne && !((match l with | [] => false | s :: _ => decide (s.kind = 6)) && decide (pk = 6)) && noTwo l)
  | [], pk => by simp [restG, noTwo]
  | [s], pk => by
    simp only [restG, noTwo, List.all_cons, List.all_nil, goodOne]
    cases decide (1 ≤ s.kind) <;> cases decide (s.kind ≤ 6) <;> cases decide (s.kind = 6) <;> cases decide (pk = 6) <;> cases goodN (countK s.kind) s.v 0 <;> cases goodW s <;> rfl
  | s :: t :: r, pk => by
    rw [restG, restG_eq (t :: r) s.kind]
    simp only [noTwo, List.all_cons, goodOne]
    generalize (decide (1 ≤ t.kind) && decide (t.kind ≤ 6) && goodN (countK t.kind) t.v 0 && goodW t) = T
    generalize r.all goodOne = R
    generalize noTwo (t :: r) = Z
    generalize goodN (countK s.kind) s.v 0 = G1
    generalize goodW s = G2
    cases decide (1 ≤ s.kind) <;> cases decide (s.kind ≤ 6) <;> cases decide (s.kind = 6) <;> cases decide (pk = 6) <;> cases decide (t.kind = 6) <;> cases T <;> cases R <;> cases Z <;> cases G1 <;> cases G2 <;> rfl
theorem goodS_rest (l : List Sg) : goodS l = (headOk l && decide (l.length ≤ 4096) && restG l 0) := by
  rw [restG_eq]
  unfold goodS
  cases l with
  | nil => rfl
  | cons s r => simp [Bool.and_assoc]
end Go.Proofs.YtefajplbgmikdaaDoor

/-
  The walk of the reference's Good.
-/
namespace Go.Proofs.YtefajplbgmikdaaDoor
open Go.RowKit

def prevK (l : List Sg) : Nat → Int
  | 0 => 0
  | k + 1 => match l[k]? with | some s => s.kind | none => 0
theorem prevK_succ {l : List Sg} {k : Nat} {s : Sg} (h : l[k]? = some s) : prevK l (k + 1) = s.kind := by simp [prevK, h]
theorem restG_at {l : List Sg} {k : Nat} {s : Sg} (h : l[k]? = some s) (pk : Int) : restG (l.drop k) pk = (decide (1 ≤ s.kind) && decide (s.kind ≤ 6) && !(decide (s.kind = 6) && decide (pk = 6)) && goodN (countK s.kind) s.v 0 && goodW s && restG (l.drop (k + 1)) s.kind) := by
  obtain ⟨hlt, he⟩ := List.getElem?_eq_some_iff.1 h
  rw [List.drop_eq_getElem_cons hlt, he, restG]

set_option maxHeartbeats 4000000 in
set_option maxRecDepth 100000 in
theorem refGood_any (l : List Sg) (hl : ∀ s ∈ l, s.v.length = 6) (hn : l.length < 4611686018427387904) (v : Value) (w : World) (h : SegRow w w.heap.size v l) :
    Calls Tryd.prog 16 #[v] w fun e w' => e = .returned (.bool (goodS l)) ∧ w' = w := by
  have H := Lib.hid h
  have HL := Lib.hid hl
  obtain ⟨p, c, rfl, hc, _⟩ := h
  obtain ⟨G, hG⟩ : ∃ G, goodS l = G := ⟨_, rfl⟩
  rw [hG]
  have HG : Hid (G = (headOk l && decide (l.length ≤ 4096) && restG l 0)) := by unfold Hid; rw [← hG]; exact goodS_rest l
  clear hl hG
  go_enter Tryd.func16, Tryd.ntmps16
  cases hl0 : l with
  | nil =>
    have HE : Hid (G = false) := by unfold Hid; rw [HG.out, hl0]; rfl
    subst hl0
    go_wp2
    go_ret
    exact ⟨by rw [HE.out]; rfl, rfl⟩
  | cons s0 r0 =>
    have hpos : 0 < l.length := by rw [hl0]; simp
    have hs0 : l[0]? = some s0 := by rw [hl0]; rfl
    have hhd : headOk l = decide (s0.kind = 1) := by rw [hl0]; rfl
    rw [← hl0]
    clear hl0
    have h6 := HL.out s0 (List.mem_of_getElem? hs0)
    have HS0 := Lib.hid hs0
    obtain ⟨sk, sv, sw⟩ := s0
    dsimp only at h6 hhd
    obtain ⟨v0, v1, v2, v3, v4, v5, rfl⟩ := six h6
    obtain ⟨b, o, c', he, _, hbn, hcells⟩ := H.out.at hs0
    simp only [Value.slice.injEq] at he
    obtain ⟨rfl, _, rfl⟩ := he
    rw [Nat.zero_mul, Nat.add_zero] at hcells
    obtain ⟨q0, q1, q2, q3, q4, q5, q6, q7⟩ := hcells
    clear hs0 h6
    have hne : ((l.length : Int) == 0) = false := by rw [beq_eq_false_iff_ne]; omega
    by_cases h96 : l.length ≤ 4096
    · by_cases h1 : sk = 1
      · have h1' : (sk != 1) = false := by simpa using h1
        have HR0 : Hid (G = restG (l.drop 0) (prevK l 0)) := by unfold Hid; rw [HG.out, hhd, decide_eq_true h1, decide_eq_true h96, List.drop_zero]; rfl
        have HK1 := Lib.hid h1
        clear h1
        go_wp2
        clear q0 q1 q2 q3 q4 q5 q6 q7
        go_loopg [3] l.length (fun gf i wx => ∃ k : Nat, i = .int .i64 k ∧ k ≤ l.length ∧ l.length ≤ k + gf ∧ G = restG (l.drop k) (prevK l k) ∧ w = wx)
        case atStart => exact ⟨0, rfl, by omega, by omega, HR0.out, rfl⟩
        case round =>
          obtain ⟨k, rfl, hkl, hkg, hrg, rfl⟩ := hrel
          have HRG := Lib.hid hrg
          clear hrg
          by_cases hk : k < l.length
          · obtain ⟨gk', rfl⟩ : ∃ g, gk = g + 1 := ⟨gk - 1, by omega⟩
            obtain ⟨s, hs⟩ : ∃ s, l[k]? = some s := ⟨_, List.getElem?_eq_getElem hk⟩
            have h6 := HL.out s (List.mem_of_getElem? hs)
            have HST := Lib.hid (restG_at hs (prevK l k))
            have hnx := prevK_succ hs
            obtain ⟨ka, sv, wa⟩ := s
            dsimp only at h6 HST hnx
            obtain ⟨a0, a1, a2, a3, a4, a5, rfl⟩ := six h6
            obtain ⟨bb, oo, cc, he, _, _, q0, q1, q2, q3, q4, q5, q6, q7⟩ := H.out.at hs
            simp only [Value.slice.injEq] at he
            obtain ⟨he1, _, rfl⟩ := he
            simp only [Option.some.injEq, Addr.mk.injEq] at he1
            obtain ⟨rfl, rfl, _⟩ := he1
            have HS := Lib.hid hs
            have HNX := Lib.hid hnx
            clear hs h6 hnx
            have hus := used_any ka
            have HUS := Lib.hid hus
            clear hus
            by_cases hin : 1 ≤ ka ∧ ka ≤ 6
            · have hu : usedS ka = (countK ka : Nat) := by unfold usedS; rw [if_pos hin]
              rw [hu] at HUS
              clear hu
              obtain ⟨n, hn'⟩ : ∃ n, countK ka = n := ⟨_, rfl⟩
              rw [hn'] at HUS
              have HN := Lib.hid hn'
              clear hn'
              have hneg : decide ((n : Int) < 0) = false := decide_eq_false (by omega)
              -- the part behind a Close
              by_cases hbad : ka = 6 ∧ prevK l k = 6
              · have HE : Hid (G = false) := by unfold Hid; rw [HRG.out, HST.out, decide_eq_true hbad.1, decide_eq_true hbad.2]; simp
                have k6' : (ka == 6) = true := by simpa using hbad.1
                have hk0 : k ≠ 0 := by
                  rintro rfl
                  have := hbad.2
                  simp [prevK] at this
                obtain ⟨m, rfl⟩ : ∃ m, k = m + 1 := ⟨k - 1, by omega⟩
                obtain ⟨t, ht⟩ : ∃ t, l[m]? = some t := ⟨_, List.getElem?_eq_getElem (by omega)⟩
                have h7 := HL.out t (List.mem_of_getElem? ht)
                have hpt := hbad.2
                rw [prevK_succ ht] at hpt
                obtain ⟨kt, tv, tw⟩ := t
                dsimp only at h7 hpt
                subst hpt
                obtain ⟨b0, b1, b2, b3, b4, b5, rfl⟩ := six h7
                obtain ⟨bb2, oo2, cc, he, _, _, r0, _⟩ := H.out.at ht
                simp only [Value.slice.injEq] at he
                obtain ⟨he1, _, rfl⟩ := he
                simp only [Option.some.injEq, Addr.mk.injEq] at he1
                obtain ⟨rfl, rfl, _⟩ := he1
                clear hbad ht h7
                have hsub : ((m + 1 : Nat) : Int) - 1 = (m : Int) := by omega
                go_wp2_with (first
                  | (go_at_call 20; (with_reducible refine (HUS.out _).mono ?_); rintro e w2 ⟨rfl, hw2⟩; obtain rfl := hw2.symm))
                go_ret
                exact ⟨by rw [HE.out]; rfl, rfl⟩
              · have HST2 : Hid (G = (goodN n [a0, a1, a2, a3, a4, a5] 0 && goodW ⟨ka, [a0, a1, a2, a3, a4, a5], wa⟩ && restG (l.drop (k + 1)) ka)) := by
                  unfold Hid
                  rw [HRG.out, HST.out, HN.out, decide_eq_true hin.1, decide_eq_true hin.2]
                  by_cases k6 : ka = 6
                  · rw [decide_eq_false (p := prevK l k = 6) (fun h => hbad ⟨k6, h⟩)]; simp
                  · rw [decide_eq_false k6]; simp
                go_upto_region 7 with (first
                  | (go_at_call 20; (with_reducible refine (HUS.out _).mono ?_); rintro e w2 ⟨rfl, hw2⟩; obtain rfl := hw2.symm))
                go_cut [51] from 33 to 51 (fun s51 wx => s51 = .bool false ∧ w = wx)
                case first =>
                  by_cases k6 : ka = 6
                  · have k6' : (ka == 6) = true := by simpa using k6
                    have hk0 : k ≠ 0 := by
                      rintro rfl
                      have e1 := HS.out
                      rw [HS0.out] at e1
                      simp only [Option.some.injEq, Sg.mk.injEq] at e1
                      have := HK1.out
                      omega
                    obtain ⟨m, rfl⟩ : ∃ m, k = m + 1 := ⟨k - 1, by omega⟩
                    obtain ⟨t, ht⟩ : ∃ t, l[m]? = some t := ⟨_, List.getElem?_eq_getElem (by omega)⟩
                    have h7 := HL.out t (List.mem_of_getElem? ht)
                    have hpt : ¬ t.kind = 6 := fun h => hbad ⟨k6, by rw [prevK_succ ht]; exact h⟩
                    obtain ⟨kt, tv, tw⟩ := t
                    dsimp only at h7 hpt
                    obtain ⟨b0, b1, b2, b3, b4, b5, rfl⟩ := six h7
                    obtain ⟨bb2, oo2, cc, he, _, _, r0, _⟩ := H.out.at ht
                    simp only [Value.slice.injEq] at he
                    obtain ⟨he1, _, rfl⟩ := he
                    simp only [Option.some.injEq, Addr.mk.injEq] at he1
                    obtain ⟨rfl, rfl, _⟩ := he1
                    have hpt' : (kt == 6) = false := by simpa using hpt
                    have hsub : ((m + 1 : Nat) : Int) - 1 = (m : Int) := by omega
                    clear hbad ht h7 hpt k6
                    go_wp2
                    go_meet
                    exact ⟨rfl, rfl⟩
                  · have k6' : (ka == 6) = false := by simpa using k6
                    clear k6
                    go_wp2
                    go_meet
                    exact ⟨rfl, rfl⟩
                case rest =>
                obtain ⟨rfl, rfl⟩ := hcut
                have HIN := Lib.hid hin
                clear hbad hneg HRG HST
                go_wp2
                go_loopg [5] 6 (fun gf j wx => ∃ m : Nat, j = .int .i64 m ∧ m ≤ 6 ∧ 6 ≤ m + gf ∧ goodN n [a0, a1, a2, a3, a4, a5] 0 = goodN n ([a0, a1, a2, a3, a4, a5].drop m) m ∧ w = wx)
                case atStart => exact ⟨0, rfl, by omega, by omega, rfl, rfl⟩
                case round =>
                  obtain ⟨m, rfl, hm6, hmg, hgn, rfl⟩ := hrel
                  have HGN := Lib.hid hgn
                  clear hgn
                  by_cases hm : m < 6
                  · obtain ⟨gm, rfl⟩ : ∃ g, gk = g + 1 := ⟨gk - 1, by omega⟩
                    obtain ⟨x, hx⟩ : ∃ x, [a0, a1, a2, a3, a4, a5][m]? = some x := ⟨_, List.getElem?_eq_getElem (by simpa using hm)⟩
                    have HCN := Lib.hid (goodN_cons (c := n) hx)
                    have hxc : w.cell? ⟨b, o + k * 8 + 1 + m, none⟩ = some (.int .i64 x) := by
                      have hj : m = 0 ∨ m = 1 ∨ m = 2 ∨ m = 3 ∨ m = 4 ∨ m = 5 := by omega
                      rcases hj with rfl | rfl | rfl | rfl | rfl | rfl <;> (simp at hx; subst hx; assumption)
                    clear hx
                    cases hin2 : inR x with
                    | false =>
                      have HE : Hid (G = false) := by unfold Hid; rw [HST2.out, HGN.out, HCN.out, hin2]; simp
                      have HF := fun V => Lib.hid (far_any x false hin2 V)
                      clear hin2
                      go_wp2_with (first
                        | (go_at_call 37; (with_reducible refine ((HF _).out).mono ?_); rintro e w2 ⟨rfl, hw2⟩; obtain rfl := hw2.symm))
                      go_ret
                      exact ⟨by rw [HE.out]; rfl, rfl⟩
                    | true =>
                      have HF := fun V => Lib.hid (far_any x true hin2 V)
                      by_cases hmn : m < n
                      · have HNXT : Hid (goodN n [a0, a1, a2, a3, a4, a5] 0 = goodN n ([a0, a1, a2, a3, a4, a5].drop (m + 1)) (m + 1)) := by unfold Hid; rw [HGN.out, HCN.out, hin2, decide_eq_true hmn]; simp
                        clear hin2
                        go_wp2_with (first
                          | (go_at_call 37; (with_reducible refine ((HF _).out).mono ?_); rintro e w2 ⟨rfl, hw2⟩; obtain rfl := hw2.symm))
                        go_roundg gm
                        case measure => omega
                        case rel => exact ⟨m + 1, rfl, by omega, by omega, HNXT.out, rfl⟩
                      · have hmn2 : n ≤ m := by omega
                        by_cases z1 : x = 0
                        · have z1' : (x != 0) = false := by simpa using z1
                          have HNXT : Hid (goodN n [a0, a1, a2, a3, a4, a5] 0 = goodN n ([a0, a1, a2, a3, a4, a5].drop (m + 1)) (m + 1)) := by unfold Hid; rw [HGN.out, HCN.out, hin2, decide_eq_true z1]; simp
                          clear hin2 z1 hmn
                          go_wp2_with (first
                            | (go_at_call 37; (with_reducible refine ((HF _).out).mono ?_); rintro e w2 ⟨rfl, hw2⟩; obtain rfl := hw2.symm))
                          go_roundg gm
                          case measure => omega
                          case rel => exact ⟨m + 1, rfl, by omega, by omega, HNXT.out, rfl⟩
                        · have z1' : (x != 0) = true := by simpa using z1
                          have HE : Hid (G = false) := by unfold Hid; rw [HST2.out, HGN.out, HCN.out, hin2, decide_eq_false z1, decide_eq_false hmn]; simp
                          clear hin2 z1 hmn
                          go_wp2_with (first
                            | (go_at_call 37; (with_reducible refine ((HF _).out).mono ?_); rintro e w2 ⟨rfl, hw2⟩; obtain rfl := hw2.symm))
                          go_ret
                          exact ⟨by rw [HE.out]; rfl, rfl⟩
                  · obtain rfl : m = 6 := by omega
                    have HG3 : Hid (G = (goodW ⟨ka, [a0, a1, a2, a3, a4, a5], wa⟩ && restG (l.drop (k + 1)) ka)) := by unfold Hid; rw [HST2.out, HGN.out]; simp [goodN]
                    by_cases k5 : ka = 5
                    · have k5' : (ka == 5) = true := by simpa using k5
                      have k5'' : (ka != 5) = false := by simpa using k5
                      have HG4 : Hid (G = (decide (1 ≤ wa) && decide (wa ≤ 4096) && restG (l.drop (k + 1)) ka)) := by unfold Hid; rw [HG3.out]; unfold goodW; rw [if_pos k5]
                      clear k5
                      by_cases u1 : wa < 1
                      · have u1' : decide (wa < 1) = true := decide_eq_true u1
                        have HE : Hid (G = false) := by unfold Hid; rw [HG4.out, decide_eq_false (p := 1 ≤ wa) (by omega)]; rfl
                        go_wp2
                        go_ret
                        exact ⟨by rw [HE.out]; rfl, rfl⟩
                      · have u1' : decide (wa < 1) = false := decide_eq_false u1
                        by_cases u2 : 4096 < wa
                        · have u2' : decide (4096 < wa) = true := decide_eq_true u2
                          have HE : Hid (G = false) := by unfold Hid; rw [HG4.out, decide_eq_false (p := wa ≤ 4096) (by omega)]; simp
                          go_wp2
                          go_ret
                          exact ⟨by rw [HE.out]; rfl, rfl⟩
                        · have u2' : decide (4096 < wa) = false := decide_eq_false u2
                          have HE : Hid (G = restG (l.drop (k + 1)) (prevK l (k + 1))) := by unfold Hid; rw [HG4.out, decide_eq_true (p := 1 ≤ wa) (by omega), decide_eq_true (p := wa ≤ 4096) (by omega), HNX.out]; rfl
                          go_wp2
                          go_roundg gk'
                          case measure => omega
                          case rel => exact ⟨k + 1, rfl, by omega, by omega, HE.out, rfl⟩
                    · have k5' : (ka == 5) = false := by simpa using k5
                      have k5'' : (ka != 5) = true := by simpa using k5
                      have HG4 : Hid (G = (decide (wa = 0) && restG (l.drop (k + 1)) ka)) := by unfold Hid; rw [HG3.out]; unfold goodW; rw [if_neg k5]
                      clear k5
                      by_cases u1 : wa = 0
                      · have u1' : (wa != 0) = false := by simpa using u1
                        have HE : Hid (G = restG (l.drop (k + 1)) (prevK l (k + 1))) := by unfold Hid; rw [HG4.out, decide_eq_true u1, HNX.out]; rfl
                        clear u1
                        go_wp2
                        go_roundg gk'
                        case measure => omega
                        case rel => exact ⟨k + 1, rfl, by omega, by omega, HE.out, rfl⟩
                      · have u1' : (wa != 0) = true := by simpa using u1
                        have HE : Hid (G = false) := by unfold Hid; rw [HG4.out, decide_eq_false u1]; rfl
                        clear u1
                        go_wp2
                        go_ret
                        exact ⟨by rw [HE.out]; rfl, rfl⟩
            · have hu : usedS ka = -1 := by unfold usedS; rw [if_neg hin]
              rw [hu] at HUS
              have HE : Hid (G = false) := by
                unfold Hid
                rw [HRG.out, HST.out]
                by_cases a1 : 1 ≤ ka
                · rw [decide_eq_false (p := ka ≤ 6) (fun h => hin ⟨a1, h⟩)]; simp
                · rw [decide_eq_false a1]; simp
              clear hu hin
              go_wp2_with (first
                | (go_at_call 20; (with_reducible refine (HUS.out _).mono ?_); rintro e w2 ⟨rfl, hw2⟩; obtain rfl := hw2.symm))
              go_ret
              exact ⟨by rw [HE.out]; rfl, rfl⟩
          · obtain rfl : k = l.length := by omega
            have HE2 : Hid (G = true) := by unfold Hid; rw [HRG.out, List.drop_length]; rfl
            go_wp2
            go_ret
            exact ⟨by rw [HE2.out]; rfl, rfl⟩
      · have h1' : (sk != 1) = true := by simpa using h1
        have HE : Hid (G = false) := by unfold Hid; rw [HG.out, hhd, decide_eq_false h1]; simp
        clear h1
        go_wp2
        go_ret
        exact ⟨by rw [HE.out]; rfl, rfl⟩
    · have HE : Hid (G = false) := by unfold Hid; rw [HG.out, decide_eq_false h96]; simp
      have h96' : decide ((4096 : Int) < (l.length : Int)) = true := decide_eq_true (by omega)
      go_wp2
      go_ret
      exact ⟨by rw [HE.out]; rfl, rfl⟩
end Go.Proofs.YtefajplbgmikdaaDoor

/-
  The walk of the reference's Text: the same text as path.Text's.
-/
namespace Go.Proofs.YtefajplbgmikdaaDoor
open Go.RowKit

theorem refdec_op (v : Int) (h : -4611686018427387904 ≤ v ∧ v ≤ 4611686018427387904) (w : World) :
    Calls Tryd.prog 33 #[.int .i64 v] w fun e w' => Bel w w' ∧ ∃ z : ByteArray, e = .returned (.string z) ∧ z.data.toList = Lib.itoa v ∧ z.size ≤ 21 :=
  (refdec_any v h w).mono fun e w' ⟨he, hb⟩ => ⟨hb, _, he, rfl, Lib.itoa_length_le v (by omega) (by omega)⟩
def oneB (s : Sg) : List UInt8 := letterB s.kind :: (numsOf s).flatMap fun n => 32 :: Lib.itoa n
theorem tail_nums (ns : List Int) : Lib.joinTail [32] (ns.map Lib.itoa) = ns.flatMap fun n => 32 :: Lib.itoa n := by
  unfold Lib.joinTail
  induction ns with
  | nil => rfl
  | cons n r ih => simp at ih ⊢; rw [ih]
theorem tail_app (a b : List (List UInt8)) : Lib.joinTail [32] (a ++ b) = Lib.joinTail [32] a ++ Lib.joinTail [32] b := by simp [Lib.joinTail]
theorem text_step {l : List Sg} {k : Nat} {s : Sg} (h : l[k]? = some s) : textS (l.take (k + 1)) = (textS (l.take k) ++ if 0 < k then [32] else []) ++ oneB s := by
  unfold textS
  have e : wordsS (l.take (k + 1)) = wordsS (l.take k) ++ ([letterB s.kind] :: (numsOf s).map Lib.itoa) := by
    unfold wordsS
    rw [List.take_add_one, h, List.flatMap_append]
    simp [wordsOf]
  rw [e]
  have ho : oneB s = letterB s.kind :: Lib.joinTail [32] ((numsOf s).map Lib.itoa) := by rw [tail_nums]; rfl
  rw [ho]
  cases k with
  | zero => simp [wordsS, Lib.join_cons, Lib.join_nil]
  | succ k =>
    obtain ⟨t, ht⟩ : ∃ t, l[0]? = some t := by
      cases l with
      | nil => simp at h
      | cons t r => exact ⟨t, rfl⟩
    have hne : ∃ x r, wordsS (l.take (k + 1)) = x :: r := by
      cases l with
      | nil => simp at ht
      | cons t r => exact ⟨_, _, by simp only [List.take_succ_cons, wordsS, List.flatMap_cons, wordsOf, List.cons_append]; rfl⟩
    obtain ⟨x, r, hx⟩ := hne
    rw [hx, List.cons_append, Lib.join_cons, Lib.join_cons, tail_app]
    simp [Lib.joinTail]
theorem letter_ext2 {k : Int} (h1 : 1 ≤ k) (h2 : k ≤ 6) : (⟨#[63, 77, 76, 81, 67, 75, 90]⟩ : ByteArray).extract k.toNat (k + 1).toNat = ⟨#[letterB k]⟩ := by
  rcases kind_cases h1 h2 with rfl | rfl | rfl | rfl | rfl | rfl <;> rfl
theorem bz1 (c : UInt8) : (⟨#[c]⟩ : ByteArray).size = 1 := rfl
theorem str_of {q : ByteArray} {x : List UInt8} (h : q.data.toList = x) : q = ⟨x.toArray⟩ := by subst h; rfl

set_option maxHeartbeats 4000000 in
set_option maxRecDepth 100000 in
theorem refText_any (l : List Sg) (hl : ∀ s ∈ l, s.v.length = 6) (hn : l.length < 4611686018427387904) (v : Value) (w : World) (h : SegRow w w.heap.size v l) :
    Calls Tryd.prog 14 #[v] w fun e w' => Bel w w' ∧ e = .returned (.tuple #[.string ⟨(if goodS l = true then textS l else []).toArray⟩, .int .i64 (if goodS l = true then 0 else 11)]) := by
  have HGO := Lib.hid (refGood_any l hl hn v w h)
  have H := Lib.hid h
  have HL := Lib.hid hl
  obtain ⟨p, c, rfl, hc, _⟩ := h
  clear hl
  go_enter Tryd.func14, Tryd.ntmps14
  cases hg : goodS l with
  | false =>
    rw [hg] at HGO
    clear hg
    go_wp2_with (first
      | (go_at_call 16; (with_reducible refine (HGO.out).mono ?_); rintro e w2 ⟨rfl, hw2⟩; obtain rfl := hw2.symm))
    go_ret2
    exact ⟨Bel.refl _, rfl⟩
  | true =>
    rw [hg] at HGO
    obtain ⟨_, h96, hall, _⟩ := good_parts hg
    have HALL := Lib.hid hall
    clear hg hall
    go_upto_region 5 with (first
      | (go_at_call 16; (with_reducible refine (HGO.out).mono ?_); rintro e w2 ⟨rfl, hw2⟩; obtain rfl := hw2.symm))
    go_wp2_with fail
    go_loopg [4, 5] l.length (fun gf s4 i wx => ∃ (k : Nat) (q : ByteArray), s4 = .string q ∧ i = .int .i64 k ∧ k ≤ l.length ∧ l.length ≤ k + gf ∧ q.data.toList = textS (l.take k) ∧ q.size ≤ 200 * k ∧ Bel w wx)
    case atStart => exact ⟨0, ⟨#[]⟩, rfl, rfl, by omega, by omega, by simp [textS, wordsS, Lib.join_nil], Nat.le_refl _, Bel.refl _⟩
    case round =>
      obtain ⟨k, q, rfl, rfl, hkl, hkg, hq, hqs, hb⟩ := hrel
      have HQ := Lib.hid hq
      have HB := Lib.hid hb
      clear hq hb
      by_cases hk : k < l.length
      · obtain ⟨gk', rfl⟩ : ∃ g, gk = g + 1 := ⟨gk - 1, by omega⟩
        obtain ⟨s, hs⟩ : ∃ s, l[k]? = some s := ⟨_, List.getElem?_eq_getElem hk⟩
        have HST := Lib.hid (text_step hs)
        have h6 := HL.out s (List.mem_of_getElem? hs)
        have hgo := HALL.out s (List.mem_of_getElem? hs)
        obtain ⟨sk, sv, sw⟩ := s
        dsimp only at h6
        obtain ⟨v0, v1, v2, v3, v4, v5, rfl⟩ := six h6
        obtain ⟨hgk, hgn, hww⟩ := good_all hgo
        dsimp only at hgk hgn
        obtain ⟨hk1, hk2⟩ := hgk
        have HCO : Hid (∀ x ∈ [v0, v1, v2, v3, v4, v5], Co x) := fun x hx => inR_iff.1 (goodN_in hgn x hx)
        have HWW : Hid (sk = 5 → 1 ≤ sw ∧ sw ≤ 4096) := by
          intro e
          unfold goodW at hww
          dsimp only at hww
          rw [if_pos e] at hww
          simpa using hww
        have HS := Lib.hid hs
        clear hgo h6 hgn hww hs
        have hex := letter_ext2 hk1 hk2
        have HEX := Lib.hid hex
        have HH := Lib.hid (H.out.bel HB.out)
        obtain ⟨bb, oo, cc, he, _, _, q0, q1, q2, q3, q4, q5, q6, q7⟩ := HH.out.at HS.out
        simp only [Value.slice.injEq] at he
        obtain ⟨rfl, _, rfl⟩ := he
        clear hex
        go_upto_if 17 with fail
        go_cut [4] from 10 to 69 (fun s4 wx => ∃ q1 : ByteArray, s4 = .string q1 ∧ q1.data.toList = textS (l.take k) ++ (if 0 < k then [32] else []) ∧ q1.size ≤ 200 * k + 1 ∧ wr = wx)
        case first =>
          by_cases k0 : 0 < k
          · have HP : Hid (textS (l.take k) ++ (if 0 < k then [32] else []) = textS (l.take k) ++ [32]) := by unfold Hid; rw [if_pos k0]
            have h96' : k ≤ 4096 := by omega
            go_wp2
            go_meet
            exact ⟨_, rfl, by rw [HP.out]; simp [HQ.out], by simp [bz1]; omega, rfl⟩
          · have HP : Hid (textS (l.take k) ++ (if 0 < k then [32] else []) = textS (l.take k)) := by unfold Hid; rw [if_neg k0]; simp
            go_wp2
            go_meet
            exact ⟨_, rfl, by rw [HP.out]; exact HQ.out, by omega, rfl⟩
        case rest =>
        obtain ⟨q9, rfl, hq9, hs9, hw9⟩ := hcut
        obtain rfl := hw9
        have HQ9 := Lib.hid hq9
        have h96' : k ≤ 4096 := by omega
        have hex := HEX.out
        clear hq9 hqs
        obtain ⟨T0, hT0⟩ : ∃ T0, textS (l.take k) ++ (if 0 < k then [32] else []) = T0 := ⟨_, rfl⟩
        rw [hT0] at HQ9 HST
        clear hT0
        go_upto_region 9 with fail
        go_quiet (fail)
        go_upto_if 39 with fail
        have HBD : Hid (Bel wr (wr.drewN nq)) := (Bel.refl _).drewN _
        generalize wr.drewN nq = wd at HBD ⊢
        go_cut [4] from 10 to 69 (fun s4 wx => ∃ qa : ByteArray, s4 = .string qa ∧ qa.data.toList = T0 ++ (letterB sk :: (if sk = 5 then 32 :: Lib.itoa sw else [])) ∧ qa.size ≤ 200 * k + 30 ∧ Bel wr wx)
        case first =>
          by_cases h5 : sk = 5
          · have h5' : (sk == 5) = true := by simpa using h5
            have hww := HWW.out h5
            have HP : Hid ((letterB sk :: (if sk = 5 then 32 :: Lib.itoa sw else [])) = letterB sk :: (32 :: Lib.itoa sw)) := by unfold Hid; rw [if_pos h5]
            have HDE := Lib.hid (fun V => refdec_op sw (by omega) V)
            have r7 := HBD.out.cell q7
            clear h5
            go_wp2_with (first
              | (go_at_call 33; (with_reducible refine (HDE.out _).mono ?_); rintro e w3 ⟨hb3, z, rfl, hz, hzs⟩; have HZ := Lib.hid hz; have HB3 := Lib.hid (HBD.out.trans hb3); clear hb3 hz))
            go_meet
            exact ⟨_, rfl, by rw [HP.out]; simp [HQ9.out, HZ.out], by simp [bz1]; omega, HB3.out⟩
          · have h5' : (sk == 5) = false := by simpa using h5
            have HP : Hid ((letterB sk :: (if sk = 5 then 32 :: Lib.itoa sw else [])) = [letterB sk]) := by unfold Hid; rw [if_neg h5]
            clear h5
            go_wp2
            go_meet
            exact ⟨_, rfl, by rw [HP.out]; simp [HQ9.out], by simp [bz1]; omega, HBD.out⟩
        case rest =>
        obtain ⟨qa, rfl, hqa, hsa, hba⟩ := hcut
        have HBA := Lib.hid (HB.out.trans hba)
        clear hba HBD q0 q1 q2 q3 q4 q5 q6 q7 HH
        obtain ⟨T1, hT1⟩ : ∃ T1, T0 ++ (letterB sk :: (if sk = 5 then 32 :: Lib.itoa sw else [])) = T1 := ⟨_, rfl⟩
        rw [hT1] at hqa
        have HQA := Lib.hid hqa
        obtain ⟨n, hn'⟩ : ∃ n, countK sk = n := ⟨_, rfl⟩
        have hcn : n ≤ 6 := by rw [← hn']; exact (ruleK_facts hk1 hk2).2.2.2.2.2.2.2.2.2.2
        have HFIN : Hid (textS (l.take (k + 1)) = T1 ++ (([v0, v1, v2, v3, v4, v5].take n).flatMap fun x => 32 :: Lib.itoa x)) := by
          unfold Hid
          rw [HST.out, ← hT1, ← hn']
          unfold oneB numsOf
          dsimp only
          split <;> simp
        have HUS : Hid (∀ V, Calls Tryd.prog 20 #[.int .i64 sk] V fun e w' => e = .returned (.int .i64 n) ∧ w' = V) := fun V => by
          have := used_any sk V
          unfold usedS at this
          rw [if_pos ⟨hk1, hk2⟩, hn'] at this
          exact this
        clear hT1 hqa hn' HST HQ9 HWW HEX hex
        go_wp2
        go_loopg [4, 6] n (fun gf s4 i wx => ∃ (m : Nat) (qb : ByteArray), s4 = .string qb ∧ i = .int .i64 m ∧ m ≤ n ∧ n ≤ m + gf ∧ qb.data.toList = T1 ++ (([v0, v1, v2, v3, v4, v5].take m).flatMap fun x => 32 :: Lib.itoa x) ∧ qb.size ≤ 200 * k + 30 + 25 * m ∧ Bel w wx)
        case atStart => exact ⟨0, _, rfl, rfl, by omega, by omega, by simpa using HQA.out, by omega, HBA.out⟩
        case round =>
          obtain ⟨m, qb, rfl, rfl, hm6, hmg, hqb, hsb, hbb⟩ := hrel
          have HQB := Lib.hid hqb
          have HBB := Lib.hid hbb
          clear hqb hbb
          obtain ⟨b2, o2, c2, he, _, _, q0, q1, q2, q3, q4, q5, q6, q7⟩ := (H.out.bel HBB.out).at HS.out
          simp only [Value.slice.injEq, Option.some.injEq, Addr.mk.injEq] at he
          obtain ⟨⟨rfl, rfl, _⟩, _, rfl⟩ := he
          by_cases hm : m < n
          · obtain ⟨gm, rfl⟩ : ∃ g, gk = g + 1 := ⟨gk - 1, by omega⟩
            obtain ⟨x, hx⟩ : ∃ x, [v0, v1, v2, v3, v4, v5][m]? = some x := ⟨_, List.getElem?_eq_getElem (by simp; omega)⟩
            have hcx := HCO.out x (List.mem_of_getElem? hx)
            unfold Co at hcx
            have HTK : Hid (T1 ++ (([v0, v1, v2, v3, v4, v5].take (m + 1)).flatMap fun x => 32 :: Lib.itoa x) = T1 ++ (([v0, v1, v2, v3, v4, v5].take m).flatMap fun x => 32 :: Lib.itoa x) ++ 32 :: Lib.itoa x) := by
              unfold Hid
              rw [List.take_add_one, hx]
              simp
            have hxc : wr.cell? ⟨bb, oo + k * 8 + 1 + m, none⟩ = some (.int .i64 x) := by
              have hj : m = 0 ∨ m = 1 ∨ m = 2 ∨ m = 3 ∨ m = 4 ∨ m = 5 := by omega
              rcases hj with rfl | rfl | rfl | rfl | rfl | rfl <;> (simp at hx; subst hx; assumption)
            have HDE := Lib.hid (fun V => refdec_op x (by omega) V)
            clear hx
            go_wp2_with (first
              | (go_at_call 20; (with_reducible refine (HUS.out _).mono ?_); rintro e w2 ⟨rfl, hw2⟩; obtain rfl := hw2.symm)
              | (go_at_call 33; (with_reducible refine (HDE.out _).mono ?_); rintro e w3 ⟨hb3, z, rfl, hz, hzs⟩; have HZ := Lib.hid hz; have HB3 := Lib.hid (HBB.out.trans hb3); clear hb3 hz))
            go_roundg gm
            case measure => omega
            case rel => exact ⟨m + 1, _, rfl, rfl, by omega, by omega, by rw [HTK.out]; simp [HQB.out, HZ.out], by simp [bz1]; omega, HB3.out⟩
          · obtain rfl : m = n := by omega
            go_wp2_with (first
              | (go_at_call 20; (with_reducible refine (HUS.out _).mono ?_); rintro e w2 ⟨rfl, hw2⟩; obtain rfl := hw2.symm))
            go_roundg gk'
            case measure => omega
            case rel => exact ⟨k + 1, _, rfl, rfl, by omega, by omega, by rw [HFIN.out]; exact HQB.out, by omega, HBB.out⟩
      · obtain rfl : k = l.length := by omega
        rw [List.take_length] at HQ
        have HZ := Lib.hid (str_of HQ.out)
        go_wp2
        go_ret2
        exact ⟨HB.out, by rw [HZ.out]; rfl⟩
end Go.Proofs.YtefajplbgmikdaaDoor
