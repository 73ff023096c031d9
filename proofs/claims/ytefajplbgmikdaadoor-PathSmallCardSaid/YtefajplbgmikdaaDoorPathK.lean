/-
  The walk of the reader's read.
-/
import Derived.Test.YtefajplbgmikdaaDoorPathJ
namespace Go.Proofs.YtefajplbgmikdaaDoor
open Go.RowKit

/-- A token that the reader can take: its numbers are small enough. -/
def TkOk (t : Tok) : Prop := 0 ≤ t.place ∧ t.place ≤ 1099511627776 ∧ t.s.length ≤ 1000000000 ∧ -4611686018427387904 ≤ t.n ∧ t.n ≤ 4611686018427387904
/-- What 'read' leaves behind. -/
def ReadPost (w : World) (r : Nat) (en : Int) (s : Except Int (List Part)) (e : Ending) (w' : World) : Prop :=
  e = .returned (.tuple #[]) ∧ Below r w w' ∧ Kp w w' ∧ match s with
    | .ok ps => ∃ lv pv, Rd w' r lv en pv (.pointer none) ∧ PRow w' r pv ps
    | .error a => ∃ lv pv, Bad w' r lv en pv a
/-- Between two tokens. -/
def Out (w0 wr : World) (r : Nat) (en : Int) (R : Except Int (List Part)) (f : Nat) : Prop :=
  Below r w0 wr ∧ Kp w0 wr ∧ ((∃ lv pv l ps, l.length ≤ f ∧ ps.length + wt l ≤ 800000000 ∧ (∀ t ∈ l, TkOk t) ∧ St wr r lv en pv l ps ∧ R = readS en f l ps) ∨ (f = 0 ∧ ∃ lv pv a, Bad wr r lv en pv a ∧ R = .error a))
/-- A token's box. -/
def Tb (w : World) (T : Nat) (t : Tok) : Prop := w.heap[T]? = some (.cells #[.int .i64 t.kind, .string ⟨t.s.toArray⟩, .int .i64 t.n, .int .i64 t.place] 106 (0, 0))
theorem Tb.kp {w w' : World} {T : Nat} {t : Tok} (h : Tb w T t) (hk : Kp w w') : Tb w' T t := hk T _ h (fun cs fr e => by cases e) (fun cs fr e => by cases e)
theorem Tb.all {w : World} {T : Nat} {t : Tok} (h : Tb w T t) : w.cell? ⟨T, 0, none⟩ = some (.int .i64 t.kind) ∧ w.cell? ⟨T, 1, none⟩ = some (.string ⟨t.s.toArray⟩) ∧ w.cell? ⟨T, 2, none⟩ = some (.int .i64 t.n) ∧ w.cell? ⟨T, 3, none⟩ = some (.int .i64 t.place) :=
  ⟨by rw [heap_cell h]; rfl, by rw [heap_cell h]; rfl, by rw [heap_cell h]; rfl, by rw [heap_cell h]; rfl⟩
/-- Within a token's letters, i of which are read. -/
def Inn (w0 wr : World) (r T : Nat) (t : Tok) (en : Int) (R : Except Int (List Part)) (f i : Nat) : Prop :=
  Below r w0 wr ∧ Kp w0 wr ∧ Tb wr T t ∧ i ≤ t.s.length ∧ ((∃ lv pv l ps, l.length ≤ f ∧ ps.length + wt l + (t.s.length - i) ≤ 800000000 ∧ (∀ t ∈ l, TkOk t) ∧ St wr r lv en pv l ps ∧
    R = match wordS en (t.s.drop i) (t.place + i) l ps with | .ok (l', ps') => readS en f l' ps' | .error e => .error e) ∨ (∃ lv pv a, Bad wr r lv en pv a ∧ R = .error a))
theorem read_nil (en : Int) (f : Nat) (ps : List Part) : readS en f [] ps = .ok ps := by cases f <;> rfl
theorem inn_step {w0 w1 w2 : World} {r T : Nat} {t : Tok} {en : Int} {R : Except Int (List Part)} {f i : Nat} {l : List Tok} {ps : List Part} {e : Ending} (hi : i < t.s.length) (hb : Below r w0 w1) (hk : Kp w0 w1) (hT : Tb w1 T t)
    (h : OncePost w1 r en (letterS en (t.s[i]'hi).toNat (t.place + i) (decide (i + 1 < t.s.length)) l ps) e w2) (hl : l.length ≤ f) (hn : ps.length + wt l + (t.s.length - i) ≤ 800000000) (hp : ∀ t ∈ l, TkOk t)
    (hR : R = match wordS en (t.s.drop i) (t.place + i) l ps with | .ok (l', ps') => readS en f l' ps' | .error e => .error e) : Inn w0 w2 r T t en R f (i + 1) := by
  obtain ⟨_, h1, h2, h3⟩ := h
  refine ⟨hb.trans h1, hk.trans h2, hT.kp h2, by omega, ?_⟩
  rw [List.drop_eq_getElem_cons hi, wordS] at hR
  have hmore : (!(t.s.drop (i + 1)).isEmpty) = decide (i + 1 < t.s.length) := by
    rw [Bool.eq_iff_iff]
    simp
  rw [hmore] at hR
  cases hs : letterS en (t.s[i]'hi).toNat (t.place + i) (decide (i + 1 < t.s.length)) l ps with
  | error a =>
    rw [hs] at h3 hR
    obtain ⟨lv, pv, h3⟩ := h3
    exact .inr ⟨lv, pv, a, h3, hR⟩
  | ok q =>
    obtain ⟨l', ps'⟩ := q
    rw [hs] at h3 hR
    obtain ⟨lv, pv, h3⟩ := h3
    have hw := letter_wt hs
    refine .inl ⟨lv, pv, l', ps', by omega, by omega, ?_, h3, ?_⟩
    · exact (letter_toks hs hp)
    · rw [hR, show t.place + ((i + 1 : Nat) : Int) = t.place + i + 1 by omega]
end Go.Proofs.YtefajplbgmikdaaDoor
