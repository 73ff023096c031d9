/-
  Mirrored points; numbers that come again; level and upright lines. No program in this text.
-/
import Derived.Test.YtefajplbgmikdaaDoorTextMain
namespace Go.Proofs.YtefajplbgmikdaaDoor
open Go.Lib

def absV (p : Pen) (sm : Bool) (nm : Nat) : List Int → Nat → List Int
  | [], _ => []
  | n :: r, i => (if sm = true then (if i % 2 = 1 ∨ nm = 86 then n + p.y else n + p.x) else n) :: absV p sm nm r (i + 1)
theorem absL_val {p : Pen} {x : Part} : ∀ (ts : List Tok) (i : Nat), (∀ v ∈ absV p x.small x.r.name (ts.map Tok.n) i, Co v) → absL p x ts i = .ok (absV p x.small x.r.name (ts.map Tok.n) i)
  | [], _, _ => rfl
  | t :: ts, i, h => by
    simp only [List.map_cons, absV] at h ⊢
    have h0 := h _ (List.mem_cons_self ..)
    have e : absN p x i t = (if x.small = true then (if i % 2 = 1 ∨ x.r.name = 86 then t.n + p.y else t.n + p.x) else t.n) := rfl
    rw [absL, e, if_pos (inR_iff.2 h0), absL_val ts (i + 1) (fun v hv => h v (List.mem_cons_of_mem _ hv))]
def resS (p : Pen) (x : Part) (pr : List Int) : Sg × Pen :=
  let v := lineV p x (pr ++ absV p x.small x.r.name (x.nums.map Tok.n) 0)
  (⟨x.r.kind, v ++ List.replicate (6 - v.length) 0, 0⟩, moveS p ⟨x.r.kind, v ++ List.replicate (6 - v.length) 0, 0⟩ v.length)
theorem seg_gen {p : Pen} {x : Part} {pr : List Int} (h5 : x.r.kind ≠ 5) (hpr : preS p x = .ok pr) (h : ∀ v ∈ absV p x.small x.r.name (x.nums.map Tok.n) 0, Co v) : segS p x = .ok (resS p x pr) := by
  unfold segS weightS
  rw [hpr]
  simp only
  rw [if_neg h5]
  simp only
  rw [absL_val _ _ h]
  rfl
theorem segs_step {x : Part} {r : List Part} {i : Nat} {p p' : Pen} {s : Sg} {l : List Sg} (hs : segS p x = .ok (s, p')) (hi : i < 4096) (h : segsS r (i + 1) p' = .ok l) : segsS (x :: r) i p = .ok (s :: l) := by
  rw [segsS, if_neg (by omega), hs]
  simp only
  rw [h]
theorem pre_not {p : Pen} {x : Part} (h : ¬ (x.r.name = 83 ∨ x.r.name = 84)) : preS p x = .ok [] := by unfold preS; rw [if_neg h]
theorem pre_mir {p : Pen} {x : Part} (h : x.r.name = 83 ∨ x.r.name = 84) (h1 : Co (mirrorS p x.r.kind).1) (h2 : Co (mirrorS p x.r.kind).2) : preS p x = .ok [(mirrorS p x.r.kind).1, (mirrorS p x.r.kind).2] := by
  unfold preS
  rw [if_pos h, if_pos ⟨inR_iff.2 h1, inR_iff.2 h2⟩]
theorem segs_three {x y z : Part} {p p1 p2 p3 : Pen} {a b c : Sg} (h1 : segS p x = .ok (a, p1)) (h2 : segS p1 y = .ok (b, p2)) (h3 : segS p2 z = .ok (c, p3)) : segsS [x, y, z] 0 p = .ok [a, b, c] :=
  segs_step h1 (by omega) (segs_step h2 (by omega) (segs_step h3 (by omega) rfl))
theorem parse_parts {ts : List Tok} {en : Int} {ps : List Part} {l : List Sg} (h1 : readAll en ts = .ok ps) (h2 : segsS ps 0 pen0 = .ok l) : parseS ts en = .ok l := by
  unfold parseS
  rw [h1]
  exact h2
theorem of_pieces {ps : List Pc} {l : List Sg} (h : pcOk ps) (h2 : parseS (toksP ps 0) (render ps).length = .ok l) : ofS (render ps) = .ok l := by
  unfold ofS
  rw [cut_pieces ps 0 h]
  exact h2

theorem seg_cap {p : Pen} {x : Part} (h5 : (x.r.kind == 5) = false) (hn : (x.r.name == 83 || x.r.name == 84) = false) (h : ∀ v ∈ absV p x.small x.r.name (x.nums.map Tok.n) 0, Co v) : segS p x = .ok (resS p x []) :=
  seg_gen (by simpa using h5) (pre_not (by simpa using hn)) h
theorem seg_mir {p : Pen} {x : Part} (h5 : (x.r.kind == 5) = false) (hn : (x.r.name == 83 || x.r.name == 84) = true) (h1 : Co (mirrorS p x.r.kind).1) (h2 : Co (mirrorS p x.r.kind).2) (h : ∀ v ∈ absV p x.small x.r.name (x.nums.map Tok.n) 0, Co v) :
    segS p x = .ok (resS p x [(mirrorS p x.r.kind).1, (mirrorS p x.r.kind).2]) :=
  seg_gen (by simpa using h5) (pre_mir (by simpa using hn) h1 h2) h
theorem co_lit {v : Int} (h : decide (-2147483648 < v ∧ v < 2147483648) = true) : Co v := by
  unfold Co
  exact of_decide_eq_true h
theorem all1 {a : Int} (ha : Co a) : ∀ v ∈ [a], Co v := fun v hv => by rw [List.mem_singleton.1 hv]; exact ha
theorem alln {a : Int} {l : List Int} (ha : Co a) (hl : ∀ v ∈ l, Co v) : ∀ v ∈ a :: l, Co v := fun v hv => by
  rcases List.mem_cons.1 hv with rfl | hv
  · exact ha
  · exact hl v hv
def dOk (d : Int) : Prop := -32768 ≤ d ∧ d ≤ 32767
theorem dOk.nat {d : Int} (h : dOk d) : d.natAbs < 4611686018427387904 := by unfold dOk at h; omega
theorem dOk.co {d : Int} (h : dOk d) : Co d := by unfold dOk at h; unfold Co; omega
def mir0 : List Pc := [.w [77], .n 0, .b 32, .n 0]
def mirC (a b c d e f : Int) : List Pc := [.w [67], .n a, .b 32, .n b, .b 32, .n c, .b 32, .n d, .b 32, .n e, .b 32, .n f]
def mirQ (c d e f : Int) : List Pc := [.w [81], .n c, .b 32, .n d, .b 32, .n e, .b 32, .n f]
def mirL (e f : Int) : List Pc := [.w [76], .n e, .b 32, .n f]
def mirS (g h : Int) : List Pc := [.w [83], .n 1, .b 32, .n 2, .b 32, .n g, .b 32, .n h]
def mirT (g h : Int) : List Pc := [.w [84], .n g, .b 32, .n h]
/-- What the third part is. -/
def Third (l : List UInt8) (k x y : Int) : Prop := ∃ s0 s1 s2, ofS l = .ok [s0, s1, s2] ∧ s2.kind = k ∧ s2.v.getD 0 0 = x ∧ s2.v.getD 1 0 = y
section
variable {a b c d e f g h : Int} (ha : dOk a) (hb : dOk b) (hc : dOk c) (hd : dOk d) (he : dOk e) (hf : dOk f) (hg : dOk g) (hh : dOk h)
include ha hb hc hd he hf hg hh in
theorem mir_cs : Third (render (mir0 ++ (mirC a b c d e f ++ mirS g h))) 4 (2 * e - c) (2 * f - d) :=
  ⟨_, _, _, of_pieces ⟨by decide, rfl, by decide, rfl, by decide, by decide, rfl, by decide, rfl, ha.nat, rfl, by decide, hb.nat, rfl, by decide, hc.nat, rfl, by decide, hd.nat, rfl, by decide, he.nat, rfl, by decide, hf.nat, rfl, by decide, rfl, by decide, rfl, by decide, by decide, rfl, by decide, hg.nat, rfl, by decide, hh.nat, rfl, trivial⟩ (parse_parts (ps := [_, _, _]) rfl (segs_three (seg_cap rfl rfl (show ∀ v ∈ [0, 0], Co v from alln (co_lit rfl) (all1 (co_lit rfl)))) (seg_cap rfl rfl (show ∀ v ∈ [a, b, c, d, e, f], Co v from alln ha.co (alln hb.co (alln hc.co (alln hd.co (alln he.co (all1 hf.co))))))) (seg_mir rfl rfl (show Co (2 * e - c) by unfold dOk at *; unfold Co; omega) (show Co (2 * f - d) by unfold dOk at *; unfold Co; omega) (show ∀ v ∈ [1, 2, g, h], Co v from alln (co_lit rfl) (alln (co_lit rfl) (alln hg.co (all1 hh.co))))))), rfl, rfl, rfl⟩
include ha hb hc hd he hf hg hh in
theorem mir_ct : Third (render (mir0 ++ (mirC a b c d e f ++ mirT g h))) 3 (e) (f) :=
  ⟨_, _, _, of_pieces ⟨by decide, rfl, by decide, rfl, by decide, by decide, rfl, by decide, rfl, ha.nat, rfl, by decide, hb.nat, rfl, by decide, hc.nat, rfl, by decide, hd.nat, rfl, by decide, he.nat, rfl, by decide, hf.nat, rfl, by decide, rfl, hg.nat, rfl, by decide, hh.nat, rfl, trivial⟩ (parse_parts (ps := [_, _, _]) rfl (segs_three (seg_cap rfl rfl (show ∀ v ∈ [0, 0], Co v from alln (co_lit rfl) (all1 (co_lit rfl)))) (seg_cap rfl rfl (show ∀ v ∈ [a, b, c, d, e, f], Co v from alln ha.co (alln hb.co (alln hc.co (alln hd.co (alln he.co (all1 hf.co))))))) (seg_mir rfl rfl (show Co (e) by unfold dOk at *; unfold Co; omega) (show Co (f) by unfold dOk at *; unfold Co; omega) (show ∀ v ∈ [g, h], Co v from alln hg.co (all1 hh.co))))), rfl, rfl, rfl⟩
include hc hd he hf hg hh in
theorem mir_qs : Third (render (mir0 ++ (mirQ c d e f ++ mirS g h))) 4 (e) (f) :=
  ⟨_, _, _, of_pieces ⟨by decide, rfl, by decide, rfl, by decide, by decide, rfl, by decide, rfl, hc.nat, rfl, by decide, hd.nat, rfl, by decide, he.nat, rfl, by decide, hf.nat, rfl, by decide, rfl, by decide, rfl, by decide, by decide, rfl, by decide, hg.nat, rfl, by decide, hh.nat, rfl, trivial⟩ (parse_parts (ps := [_, _, _]) rfl (segs_three (seg_cap rfl rfl (show ∀ v ∈ [0, 0], Co v from alln (co_lit rfl) (all1 (co_lit rfl)))) (seg_cap rfl rfl (show ∀ v ∈ [c, d, e, f], Co v from alln hc.co (alln hd.co (alln he.co (all1 hf.co))))) (seg_mir rfl rfl (show Co (e) by unfold dOk at *; unfold Co; omega) (show Co (f) by unfold dOk at *; unfold Co; omega) (show ∀ v ∈ [1, 2, g, h], Co v from alln (co_lit rfl) (alln (co_lit rfl) (alln hg.co (all1 hh.co))))))), rfl, rfl, rfl⟩
include hc hd he hf hg hh in
theorem mir_qt : Third (render (mir0 ++ (mirQ c d e f ++ mirT g h))) 3 (2 * e - c) (2 * f - d) :=
  ⟨_, _, _, of_pieces ⟨by decide, rfl, by decide, rfl, by decide, by decide, rfl, by decide, rfl, hc.nat, rfl, by decide, hd.nat, rfl, by decide, he.nat, rfl, by decide, hf.nat, rfl, by decide, rfl, hg.nat, rfl, by decide, hh.nat, rfl, trivial⟩ (parse_parts (ps := [_, _, _]) rfl (segs_three (seg_cap rfl rfl (show ∀ v ∈ [0, 0], Co v from alln (co_lit rfl) (all1 (co_lit rfl)))) (seg_cap rfl rfl (show ∀ v ∈ [c, d, e, f], Co v from alln hc.co (alln hd.co (alln he.co (all1 hf.co))))) (seg_mir rfl rfl (show Co (2 * e - c) by unfold dOk at *; unfold Co; omega) (show Co (2 * f - d) by unfold dOk at *; unfold Co; omega) (show ∀ v ∈ [g, h], Co v from alln hg.co (all1 hh.co))))), rfl, rfl, rfl⟩
include he hf hg hh in
theorem mir_ls : Third (render (mir0 ++ (mirL e f ++ mirS g h))) 4 (e) (f) :=
  ⟨_, _, _, of_pieces ⟨by decide, rfl, by decide, rfl, by decide, by decide, rfl, by decide, rfl, he.nat, rfl, by decide, hf.nat, rfl, by decide, rfl, by decide, rfl, by decide, by decide, rfl, by decide, hg.nat, rfl, by decide, hh.nat, rfl, trivial⟩ (parse_parts (ps := [_, _, _]) rfl (segs_three (seg_cap rfl rfl (show ∀ v ∈ [0, 0], Co v from alln (co_lit rfl) (all1 (co_lit rfl)))) (seg_cap rfl rfl (show ∀ v ∈ [e, f], Co v from alln he.co (all1 hf.co))) (seg_mir rfl rfl (show Co (e) by unfold dOk at *; unfold Co; omega) (show Co (f) by unfold dOk at *; unfold Co; omega) (show ∀ v ∈ [1, 2, g, h], Co v from alln (co_lit rfl) (alln (co_lit rfl) (alln hg.co (all1 hh.co))))))), rfl, rfl, rfl⟩
include he hf hg hh in
theorem mir_lt : Third (render (mir0 ++ (mirL e f ++ mirT g h))) 3 (e) (f) :=
  ⟨_, _, _, of_pieces ⟨by decide, rfl, by decide, rfl, by decide, by decide, rfl, by decide, rfl, he.nat, rfl, by decide, hf.nat, rfl, by decide, rfl, hg.nat, rfl, by decide, hh.nat, rfl, trivial⟩ (parse_parts (ps := [_, _, _]) rfl (segs_three (seg_cap rfl rfl (show ∀ v ∈ [0, 0], Co v from alln (co_lit rfl) (all1 (co_lit rfl)))) (seg_cap rfl rfl (show ∀ v ∈ [e, f], Co v from alln he.co (all1 hf.co))) (seg_mir rfl rfl (show Co (e) by unfold dOk at *; unfold Co; omega) (show Co (f) by unfold dOk at *; unfold Co; omega) (show ∀ v ∈ [g, h], Co v from alln hg.co (all1 hh.co))))), rfl, rfl, rfl⟩
end
def agA (m : UInt8) (a b c d e f : Int) : List Pc := [.w [m], .n a, .b 32, .n b, .b 32, .n c, .b 32, .n d, .b 44, .n e, .b 32, .n f]
def agB (m l : UInt8) (a b c d e f : Int) : List Pc := [.w [m], .n a, .b 32, .n b, .w [l], .n c, .b 32, .n d, .w [l], .n e, .b 32, .n f]
def agC (m l : UInt8) (a b c d e f : Int) : List Pc := [.w [m], .n a, .b 32, .n b, .w [l], .n c, .b 32, .n d, .b 32, .n e, .b 32, .n f]
def agX (m h v : UInt8) (a b c d : Int) : List Pc := [.w [m], .n a, .b 32, .n b, .w [h], .n c, .w [v], .n d]
def Again (A B C : List UInt8) : Prop := ∃ s0 s1 s2, ofS A = .ok [s0, s1, s2] ∧ ofS B = .ok [s0, s1, s2] ∧ ofS C = .ok [s0, s1, s2]
def Lines2 (X : List UInt8) (x y x2 y2 : Int) : Prop := ∃ s0 s1 s2, ofS X = .ok [s0, s1, s2] ∧ s1.v.getD 0 0 = x ∧ s1.v.getD 1 0 = y ∧ s2.v.getD 0 0 = x2 ∧ s2.v.getD 1 0 = y2
section
variable {a b c d e f : Int} (ha : dOk a) (hb : dOk b) (hc : dOk c) (hd : dOk d) (he : dOk e) (hf : dOk f)
include ha hb hc hd he hf in
theorem again_cap : Again (render (agA 77 a b c d e f)) (render (agB 77 76 a b c d e f)) (render (agC 77 76 a b c d e f)) :=
  ⟨_, _, _, of_pieces ⟨by decide, rfl, ha.nat, rfl, by decide, hb.nat, rfl, by decide, hc.nat, rfl, by decide, hd.nat, rfl, by decide, he.nat, rfl, by decide, hf.nat, rfl, trivial⟩ (parse_parts (ps := [_, _, _]) rfl (segs_three (seg_cap rfl rfl (show ∀ v ∈ [a, b], Co v from (alln (show Co (a) by unfold dOk at *; unfold Co; omega) (all1 (show Co (b) by unfold dOk at *; unfold Co; omega))))) (seg_cap rfl rfl (show ∀ v ∈ [c, d], Co v from (alln (show Co (c) by unfold dOk at *; unfold Co; omega) (all1 (show Co (d) by unfold dOk at *; unfold Co; omega))))) (seg_cap rfl rfl (show ∀ v ∈ [e, f], Co v from (alln (show Co (e) by unfold dOk at *; unfold Co; omega) (all1 (show Co (f) by unfold dOk at *; unfold Co; omega))))))),
    of_pieces ⟨by decide, rfl, ha.nat, rfl, by decide, hb.nat, rfl, by decide, rfl, hc.nat, rfl, by decide, hd.nat, rfl, by decide, rfl, he.nat, rfl, by decide, hf.nat, rfl, trivial⟩ (parse_parts (ps := [_, _, _]) rfl (segs_three (seg_cap rfl rfl (show ∀ v ∈ [a, b], Co v from (alln (show Co (a) by unfold dOk at *; unfold Co; omega) (all1 (show Co (b) by unfold dOk at *; unfold Co; omega))))) (seg_cap rfl rfl (show ∀ v ∈ [c, d], Co v from (alln (show Co (c) by unfold dOk at *; unfold Co; omega) (all1 (show Co (d) by unfold dOk at *; unfold Co; omega))))) (seg_cap rfl rfl (show ∀ v ∈ [e, f], Co v from (alln (show Co (e) by unfold dOk at *; unfold Co; omega) (all1 (show Co (f) by unfold dOk at *; unfold Co; omega))))))),
    of_pieces ⟨by decide, rfl, ha.nat, rfl, by decide, hb.nat, rfl, by decide, rfl, hc.nat, rfl, by decide, hd.nat, rfl, by decide, he.nat, rfl, by decide, hf.nat, rfl, trivial⟩ (parse_parts (ps := [_, _, _]) rfl (segs_three (seg_cap rfl rfl (show ∀ v ∈ [a, b], Co v from (alln (show Co (a) by unfold dOk at *; unfold Co; omega) (all1 (show Co (b) by unfold dOk at *; unfold Co; omega))))) (seg_cap rfl rfl (show ∀ v ∈ [c, d], Co v from (alln (show Co (c) by unfold dOk at *; unfold Co; omega) (all1 (show Co (d) by unfold dOk at *; unfold Co; omega))))) (seg_cap rfl rfl (show ∀ v ∈ [e, f], Co v from (alln (show Co (e) by unfold dOk at *; unfold Co; omega) (all1 (show Co (f) by unfold dOk at *; unfold Co; omega)))))))⟩
include ha hb hc hd in
theorem lines_cap : Lines2 (render (agX 77 72 86 a b c d)) c b c d :=
  ⟨_, _, _, of_pieces ⟨by decide, rfl, ha.nat, rfl, by decide, hb.nat, rfl, by decide, rfl, hc.nat, rfl, by decide, rfl, hd.nat, rfl, trivial⟩ (parse_parts (ps := [_, _, _]) rfl (segs_three (seg_cap rfl rfl (show ∀ v ∈ [a, b], Co v from (alln (show Co (a) by unfold dOk at *; unfold Co; omega) (all1 (show Co (b) by unfold dOk at *; unfold Co; omega))))) (seg_cap rfl rfl (show ∀ v ∈ [c], Co v from (all1 (show Co (c) by unfold dOk at *; unfold Co; omega)))) (seg_cap rfl rfl (show ∀ v ∈ [d], Co v from (all1 (show Co (d) by unfold dOk at *; unfold Co; omega)))))), rfl, rfl, rfl, rfl⟩
include ha hb hc hd he hf in
theorem again_small : Again (render (agA 109 a b c d e f)) (render (agB 109 108 a b c d e f)) (render (agC 109 108 a b c d e f)) :=
  ⟨_, _, _, of_pieces ⟨by decide, rfl, ha.nat, rfl, by decide, hb.nat, rfl, by decide, hc.nat, rfl, by decide, hd.nat, rfl, by decide, he.nat, rfl, by decide, hf.nat, rfl, trivial⟩ (parse_parts (ps := [_, _, _]) rfl (segs_three (seg_cap rfl rfl (show ∀ v ∈ [a + 0, b + 0], Co v from (alln (show Co (a + 0) by unfold dOk at *; unfold Co; omega) (all1 (show Co (b + 0) by unfold dOk at *; unfold Co; omega))))) (seg_cap rfl rfl (show ∀ v ∈ [c + (a + 0), d + (b + 0)], Co v from (alln (show Co (c + (a + 0)) by unfold dOk at *; unfold Co; omega) (all1 (show Co (d + (b + 0)) by unfold dOk at *; unfold Co; omega))))) (seg_cap rfl rfl (show ∀ v ∈ [e + (c + (a + 0)), f + (d + (b + 0))], Co v from (alln (show Co (e + (c + (a + 0))) by unfold dOk at *; unfold Co; omega) (all1 (show Co (f + (d + (b + 0))) by unfold dOk at *; unfold Co; omega))))))),
    of_pieces ⟨by decide, rfl, ha.nat, rfl, by decide, hb.nat, rfl, by decide, rfl, hc.nat, rfl, by decide, hd.nat, rfl, by decide, rfl, he.nat, rfl, by decide, hf.nat, rfl, trivial⟩ (parse_parts (ps := [_, _, _]) rfl (segs_three (seg_cap rfl rfl (show ∀ v ∈ [a + 0, b + 0], Co v from (alln (show Co (a + 0) by unfold dOk at *; unfold Co; omega) (all1 (show Co (b + 0) by unfold dOk at *; unfold Co; omega))))) (seg_cap rfl rfl (show ∀ v ∈ [c + (a + 0), d + (b + 0)], Co v from (alln (show Co (c + (a + 0)) by unfold dOk at *; unfold Co; omega) (all1 (show Co (d + (b + 0)) by unfold dOk at *; unfold Co; omega))))) (seg_cap rfl rfl (show ∀ v ∈ [e + (c + (a + 0)), f + (d + (b + 0))], Co v from (alln (show Co (e + (c + (a + 0))) by unfold dOk at *; unfold Co; omega) (all1 (show Co (f + (d + (b + 0))) by unfold dOk at *; unfold Co; omega))))))),
    of_pieces ⟨by decide, rfl, ha.nat, rfl, by decide, hb.nat, rfl, by decide, rfl, hc.nat, rfl, by decide, hd.nat, rfl, by decide, he.nat, rfl, by decide, hf.nat, rfl, trivial⟩ (parse_parts (ps := [_, _, _]) rfl (segs_three (seg_cap rfl rfl (show ∀ v ∈ [a + 0, b + 0], Co v from (alln (show Co (a + 0) by unfold dOk at *; unfold Co; omega) (all1 (show Co (b + 0) by unfold dOk at *; unfold Co; omega))))) (seg_cap rfl rfl (show ∀ v ∈ [c + (a + 0), d + (b + 0)], Co v from (alln (show Co (c + (a + 0)) by unfold dOk at *; unfold Co; omega) (all1 (show Co (d + (b + 0)) by unfold dOk at *; unfold Co; omega))))) (seg_cap rfl rfl (show ∀ v ∈ [e + (c + (a + 0)), f + (d + (b + 0))], Co v from (alln (show Co (e + (c + (a + 0))) by unfold dOk at *; unfold Co; omega) (all1 (show Co (f + (d + (b + 0))) by unfold dOk at *; unfold Co; omega)))))))⟩
include ha hb hc hd in
theorem lines_small : Lines2 (render (agX 109 104 118 a b c d)) (a + c) b (a + c) (b + d) :=
  ⟨_, _, _, of_pieces ⟨by decide, rfl, ha.nat, rfl, by decide, hb.nat, rfl, by decide, rfl, hc.nat, rfl, by decide, rfl, hd.nat, rfl, trivial⟩ (parse_parts (ps := [_, _, _]) rfl (segs_three (seg_cap rfl rfl (show ∀ v ∈ [a + 0, b + 0], Co v from (alln (show Co (a + 0) by unfold dOk at *; unfold Co; omega) (all1 (show Co (b + 0) by unfold dOk at *; unfold Co; omega))))) (seg_cap rfl rfl (show ∀ v ∈ [c + (a + 0)], Co v from (all1 (show Co (c + (a + 0)) by unfold dOk at *; unfold Co; omega)))) (seg_cap rfl rfl (show ∀ v ∈ [d + (b + 0)], Co v from (all1 (show Co (d + (b + 0)) by unfold dOk at *; unfold Co; omega)))))), by show c + (a + 0) = a + c; omega, by show b + 0 = b; omega, by show c + (a + 0) = a + c; omega, by show d + (b + 0) = b + d; omega⟩
end
end Go.Proofs.YtefajplbgmikdaaDoor
