/-
  The walk of the law CmdFirst.
-/
import Derived.Test.YtefajplbgmikdaaDoorCmj17
import Derived.StillTailTactics
namespace Go.Proofs.YtefajplbgmikdaaDoor
open Go.RowKit

theorem first_facts {n m : Nat} (hn : n < 9) (hm : m < 8) (late : Bool) : ∃ a : Int, parseC (firstS n m late) = ([], a, 20) ∧ (firstP m late : Int) ≤ a ∧ a ≤ (firstP m late : Int) + (synL.getD n []).length := by
  have h := first_ok ⟨n, hn⟩ ⟨m, hm⟩ late
  unfold firstOk at h
  dsimp only at h
  obtain ⟨l, a, e, he⟩ : ∃ l a e, parseC (firstS n m late) = (l, a, e) := ⟨_, _, _, rfl⟩
  rw [he] at h
  simp only [Bool.and_eq_true, decide_eq_true_eq] at h
  obtain ⟨⟨⟨rfl, rfl⟩, h3⟩, h4⟩ := h
  exact ⟨a, he, h3, h4⟩
theorem two_facts {n m : Nat} (hn : n < 8) (hm : m < 8) : ∃ l a, parseC (twoS n m) = (l, a, 21) ∧ l.length = 2 ∧ (22 : Int) ≤ a ∧ a < 22 + (ranL.getD m []).length := by
  have h := two_ok ⟨n, hn⟩ ⟨m, hm⟩
  unfold twoOk at h
  dsimp only at h
  obtain ⟨l, a, e, he⟩ : ∃ l a e, parseC (twoS n m) = (l, a, e) := ⟨_, _, _, rfl⟩
  rw [he] at h
  simp only [Bool.and_eq_true, decide_eq_true_eq] at h
  obtain ⟨⟨⟨rfl, h2⟩, h3⟩, h4⟩ := h
  exact ⟨l, a, he, h2, h3, h4⟩
theorem parse_str {s : List UInt8} {l : List Cm} {a c : Int} (h : parseC s = (l, a, c)) {w : World} (hb : Base w) : ∀ (V : World) (x : ByteArray), x = ⟨s.toArray⟩ → Bel w V →
    Calls Tryd.prog 28 #[.string x] V fun e w' => Bel V w' ∧ ∃ p cp, e = .returned (.tuple #[.slice p l.length cp, .int .i64 a, .int .i64 c]) ∧ CmdRow w' (.slice p l.length cp) l := fun V x hx hV => by
  subst hx
  exact parse_ok h V (hb.on hV)
theorem ba_app (a b : List UInt8) : (⟨a.toArray⟩ : ByteArray) ++ ⟨b.toArray⟩ = ⟨(a ++ b).toArray⟩ := by
  apply ByteArray.ext
  simp
def synV : Array Value := (synL.map strV).toArray
def ranV : Array Value := (ranL.map strV).toArray
theorem ran_len : ∀ m : Fin 8, (ranL.getD m.1 []).length ≤ 30 := by decide
theorem syn_len : ∀ m : Fin 9, (synL.getD m.1 []).length ≤ 30 := by decide
theorem syn_at : ∀ m : Fin 9, synV[m.1]? = some (strV (synL.getD m.1 [])) := by
  intro m
  unfold synV
  rw [List.getElem?_toArray, List.getElem?_map, List.getD, List.getElem?_eq_getElem (show m.1 < synL.length from m.2)]
  rfl
theorem ran_at : ∀ m : Fin 8, ranV[m.1]? = some (strV (ranL.getD m.1 [])) := by
  intro m
  unfold ranV
  rw [List.getElem?_toArray, List.getElem?_map, List.getD, List.getElem?_eq_getElem (show m.1 < ranL.length from m.2)]
  rfl
set_option maxHeartbeats 8000000 in
set_option maxRecDepth 100000 in
theorem cmdFirst_any (n m : Nat) (late : Bool) (hn : n < 256) (hm : m < 256) {w : World} (hb : Base w) :
    Calls Tryd.prog 10 #[.int .u8 n, .int .u8 m, .bool late] w fun e w' => e = .returned (.bool true) ∧ Bel w w' := by
  have HB := Lib.hid hb
  obtain ⟨i, hi⟩ : ∃ i, n % 9 = i := ⟨_, rfl⟩
  obtain ⟨j, hj⟩ : ∃ j, m % 8 = j := ⟨_, rfl⟩
  obtain ⟨k, hk⟩ : ∃ k, n % 8 = k := ⟨_, rfl⟩
  have hi9 : i < 9 := by omega
  have hj8 : j < 8 := by omega
  have hk8 : k < 8 := by omega
  have ti : Int.tmod (n : Int) 9 = (i : Int) := by rw [← hi]; exact Int.ofNat_tmod n 9 |>.symm
  have tj : Int.tmod (m : Int) 8 = (j : Int) := by rw [← hj]; exact Int.ofNat_tmod m 8 |>.symm
  have tk : Int.tmod (n : Int) 8 = (k : Int) := by rw [← hk]; exact Int.ofNat_tmod n 8 |>.symm
  have wn : IntKind.i64.wrap (n : Int) = n := IntWalk.i64_in _ (by omega)
  have wm : IntKind.i64.wrap (m : Int) = m := IntWalk.i64_in _ (by omega)
  have zi : (i : Int) < 9 := by omega
  have zj : (j : Int) < 8 := by omega
  have zk : (k : Int) < 8 := by omega
  obtain ⟨a, hpa, ha1, ha2⟩ := first_facts hi9 hj8 late
  obtain ⟨l2, c, hpc, hl2, hc1, hc2⟩ := two_facts hk8 hj8
  have hsa := syn_at ⟨i, hi9⟩
  have hra := ran_at ⟨j, hj8⟩
  have hrc := ran_at ⟨k, hk8⟩
  have hra2 := ran_len ⟨j, hj8⟩
  have hsa2 := syn_len ⟨i, hi9⟩
  have hrc2 := ran_len ⟨k, hk8⟩
  have HP1 := Lib.hid (parse_str hpa hb)
  have HP2 := Lib.hid (parse_str hpc hb)
  dsimp only at hsa hra hrc hra2 hsa2 hrc2
  have HWK : Hid (∀ V, Bel w V → _) := fun V h => wakesC_any (hb.on h)
  clear hi hj hk hpa hpc hb
  go_enter Tryd.func10, Tryd.ntmps10
  clear hn hm hi9 hj8 hk8
  go_upto_region 3 with fail
  obtain ⟨W, hW⟩ : ∃ W, (w.alloc (.cells synV 9)).alloc (.cells ranV 9) = W := ⟨_, rfl⟩
  have HWB : Hid (Bel w W) := hW ▸ ((Bel.refl w).alloc _).alloc _
  obtain ⟨X, hX⟩ : ∃ X, w.heap.size = X := ⟨_, rfl⟩
  have hWS : W.heap[X]? = some (.cells synV 9 (0, 0)) := hX ▸ hW ▸ heap_push_of (heap_alloc_new w _) _
  have hWR : W.heap[X + 1]? = some (.cells ranV 9 (0, 0)) := by
    have := heap_alloc_new (w.alloc (.cells synV 9)) (.cells ranV 9 (0, 0))
    rw [show (w.alloc (.cells synV 9)).heap.size = X + 1 by rw [← hX]; simp] at this
    exact hW ▸ this
  change Code.wp _ _ _ _ ((w.alloc (.cells synV 9)).alloc (.cells ranV 9))
  rw [hW, hX]
  obtain ⟨A, hA⟩ : ∃ A : ByteArray, (⟨(synL.getD i []).toArray⟩ : ByteArray) = A := ⟨_, rfl⟩
  obtain ⟨B, hB⟩ : ∃ B : ByteArray, (⟨(ranL.getD j []).toArray⟩ : ByteArray) = B := ⟨_, rfl⟩
  obtain ⟨C, hC⟩ : ∃ C : ByteArray, (⟨(ranL.getD k []).toArray⟩ : ByteArray) = C := ⟨_, rfl⟩
  have d1 : W.drew.cell? ⟨X, i, none⟩ = some (.string A) := by
    show W.cell? ⟨X, i, none⟩ = _
    rw [heap_cell hWS, hsa, strV, hA]
  have d2 : W.drew.cell? ⟨X + 1, j, none⟩ = some (.string B) := by
    show W.cell? ⟨X + 1, j, none⟩ = _
    rw [heap_cell hWR, hra, strV, hB]
  have d3 : W.drew.cell? ⟨X + 1, k, none⟩ = some (.string C) := by
    show W.cell? ⟨X + 1, k, none⟩ = _
    rw [heap_cell hWR, hrc, strV, hC]
  have hAs : A.size = (synL.getD i []).length := by rw [← hA]; rfl
  have hCs : C.size ≤ 30 := by rw [← hC]; exact hrc2
  have hBs : B.size = (ranL.getD j []).length := by rw [← hB]; rfl
  obtain ⟨la, hla⟩ : ∃ la, (synL.getD i []).length = la := ⟨_, rfl⟩
  obtain ⟨lb, hlb⟩ : ∃ lb, (ranL.getD j []).length = lb := ⟨_, rfl⟩
  have HE1 : Hid (if late = true then (⟨headL.toArray⟩ : ByteArray) ++ A ++ ⟨#[10]⟩ ++ B = ⟨(firstS i j late).toArray⟩ else (⟨headL.toArray⟩ : ByteArray) ++ B ++ ⟨#[10]⟩ ++ A = ⟨(firstS i j late).toArray⟩) := by
    unfold Hid firstS
    rw [← hA, ← hB, show (⟨#[10]⟩ : ByteArray) = ⟨([10] : List UInt8).toArray⟩ from rfl]
    cases late <;> simp only [ba_app, if_true, if_false, Bool.false_eq_true]
  have HE2 : Hid ((⟨headL.toArray⟩ : ByteArray) ++ ⟨pushL.toArray⟩ ++ B ++ ⟨#[10]⟩ ++ C = ⟨(twoS k j).toArray⟩) := by
    unfold Hid twoS
    rw [← hC, ← hB, show (⟨#[10]⟩ : ByteArray) = ⟨([10] : List UInt8).toArray⟩ from rfl]
    simp only [ba_app]
  have hpl : (firstP j late : Int) = if late = true then 17 else 17 + (lb + 1) := by
    unfold firstP
    rw [hlb]
    cases late <;> simp [headL]
  rw [hla] at hAs ha2 hsa2
  rw [hlb] at hBs hra2 hc2
  rw [hpl] at ha1 ha2
  clear hW hX hsa hra hrc hA hB hC hla hlb hWS hWR hpl
  unfold headL at HE1 HE2
  unfold pushL at HE2
  cases late with
  | false =>
    rw [if_neg (by simp)] at HE1
    rw [if_neg (by simp)] at ha1 ha2
    have e1 : decide (a < 17 + ((lb : Int) + 1)) = false := decide_eq_false (by omega)
    have e2 : decide (17 + ((lb : Int) + 1) + la < a) = false := decide_eq_false (by omega)
    have e3 : decide (22 ≤ c) = true := decide_eq_true hc1
    have e4 : decide (c < 22 + (lb : Int)) = true := decide_eq_true hc2
    go_region_law (fail)
    all_goals
      go_upto_region 12 with (first
        | (go_at_call 28; ((with_reducible refine (HP1.out _ _ HE1.out HWB.out.drew).mono ?_); rintro e w2 ⟨hb2, p2, c2, rfl, _⟩; have d4 := hb2.cell d3; have HB2 := Lib.hid (HWB.out.drew.trans hb2); clear hb2)))
      go_wp2_with (first
        | (go_at_call 28; ((with_reducible refine (HP2.out _ _ HE2.out HB2.out).mono ?_); rintro e w3 ⟨hb3, p3, c3, rfl, _⟩; rw [hl2]; have HB3 := Lib.hid (HB2.out.trans hb3); clear hb3))
        | (go_at_call 23; ((with_reducible refine (HWK.out _ HB3.out).mono ?_); rintro e w4 ⟨rfl, hb4⟩; have HB4 := Lib.hid (HB3.out.trans hb4); clear hb4)))
      exact bodyPost_ret (v := .bool true) (by simp [results, Tryd.results10, go_sem]) rfl ⟨rfl, HB4.out⟩
  | true =>
    rw [if_pos rfl] at HE1
    rw [if_pos rfl] at ha1 ha2
    have e1 : decide (a < 17) = false := decide_eq_false (by omega)
    have e2 : decide (17 + (la : Int) < a) = false := decide_eq_false (by omega)
    have e3 : decide (22 ≤ c) = true := decide_eq_true hc1
    have e4 : decide (c < 22 + (lb : Int)) = true := decide_eq_true hc2
    go_region_law (fail)
    all_goals
      go_upto_region 12 with (first
        | (go_at_call 28; ((with_reducible refine (HP1.out _ _ HE1.out HWB.out.drew).mono ?_); rintro e w2 ⟨hb2, p2, c2, rfl, _⟩; have d4 := hb2.cell d3; have HB2 := Lib.hid (HWB.out.drew.trans hb2); clear hb2)))
      go_wp2_with (first
        | (go_at_call 28; ((with_reducible refine (HP2.out _ _ HE2.out HB2.out).mono ?_); rintro e w3 ⟨hb3, p3, c3, rfl, _⟩; rw [hl2]; have HB3 := Lib.hid (HB2.out.trans hb3); clear hb3))
        | (go_at_call 23; ((with_reducible refine (HWK.out _ HB3.out).mono ?_); rintro e w4 ⟨rfl, hb4⟩; have HB4 := Lib.hid (HB3.out.trans hb4); clear hb4)))
      exact bodyPost_ret (v := .bool true) (by simp [results, Tryd.results10, go_sem]) rfl ⟨rfl, HB4.out⟩
end Go.Proofs.YtefajplbgmikdaaDoor
