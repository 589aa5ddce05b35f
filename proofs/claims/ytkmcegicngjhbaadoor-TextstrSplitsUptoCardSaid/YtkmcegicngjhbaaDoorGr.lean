/-
  Own rules: the lines of a text, as strings.Lines yields them. No condition of its own.
-/
import Derived.Test.YtkmcegicngjhbaaDoorGp
import Derived.Test.YtkmcegicngjhbaaDoorGf
set_option linter.all false
namespace Go.Gv
open Go

/-! rounds in order -/
theorem foldO_at {α τ : Type} {f : τ → α → Option τ} : ∀ {pre : List α} {l rest : List α} {st st1 r : τ} {x : α}, foldO f st l = some r → l = pre ++ x :: rest → foldO f st pre = some st1 → ∃ st2, f st1 x = some st2
  | [], _, rest, st, st1, r, x, h, e, h1 => by
    subst e
    cases h1
    cases hx : f st x with
    | none => simp [foldO, hx] at h
    | some y => exact ⟨y, rfl⟩
  | a :: pre, _, rest, st, st1, r, x, h, e, h1 => by
    subst e
    cases ha : f st a with
    | none => simp [foldO, ha] at h
    | some y =>
      have h2 : foldO f y (pre ++ x :: rest) = some r := by simpa [foldO, ha] using h
      have h3 : foldO f y pre = some st1 := by simpa [foldO, ha] using h1
      exact foldO_at h2 rfl h3
theorem FarB.ex {B bs : Nat} {t : TypeId} {W W' : World} {row : Option Nat} {c : Value} (h : FarB B bs t W W' row) (hb : Box W bs t #[c]) (hg : W.grownBy W' row) : ∃ c', Box W' bs t #[c'] := by
  by_cases hr : row = some bs
  · rcases h bs hr with ⟨_, hx⟩ | ⟨_, o, h1, h2⟩
    · exact hx
    · exact (kf_box (B := 0) hb ⟨Nat.zero_le _, o, h1, h2⟩).elim
  · exact ⟨c, hb.grown hg fun g e e' => hr (by rw [e, e'])⟩
def cutL (l : List UInt8) : Nat := if 0 ≤ nIdxB l 10 then (nIdxB l 10).toNat + 1 else l.length
def linesN : Nat → List UInt8 → List (List UInt8)
  | 0, _ => []
  | n + 1, l => if l = [] then [] else l.take (cutL l) :: linesN n (l.drop (cutL l))
def linesB (s : ByteArray) : List ByteArray := (linesN s.size (bytesOf s)).map strOf
theorem nIdxB_lt : ∀ (l : List UInt8), -1 ≤ nIdxB l 10 ∧ (nIdxB l 10 < l.length)
  | [] => ⟨by decide, by decide⟩
  | b :: l => by
    have := nIdxB_lt l
    show -1 ≤ (if b == 10 then (0 : Int) else if nIdxB l 10 == -1 then -1 else nIdxB l 10 + 1) ∧ (if b == 10 then (0 : Int) else if nIdxB l 10 == -1 then -1 else nIdxB l 10 + 1) < ((l.length + 1 : Nat) : Int)
    split
    · omega
    · split
      · omega
      · rename_i h
        have : nIdxB l 10 ≠ -1 := by simpa using h
        omega
theorem cutL_pos {l : List UInt8} (h : l ≠ []) : 1 ≤ cutL l ∧ cutL l ≤ l.length := by
  have := nIdxB_lt l
  have hp : 0 < l.length := List.length_pos_iff.2 h
  unfold cutL
  split <;> omega
theorem linesN_any : ∀ (n m : Nat) (l : List UInt8), l.length ≤ n → l.length ≤ m → linesN n l = linesN m l
  | 0, 0, _, _, _ => rfl
  | 0, m + 1, l, h, _ => by
    have : l = [] := List.length_eq_zero_iff.1 (by omega)
    subst this; rfl
  | n + 1, 0, l, _, h => by
    have : l = [] := List.length_eq_zero_iff.1 (by omega)
    subst this; rfl
  | n + 1, m + 1, l, h, h' => by
    show (if l = [] then _ else _) = (if l = [] then _ else _)
    by_cases h0 : l = []
    · rw [if_pos h0, if_pos h0]
    · rw [if_neg h0, if_neg h0]
      have hc := cutL_pos h0
      rw [linesN_any n m _ (by rw [List.length_drop]; omega) (by rw [List.length_drop]; omega)]
theorem bsize (s : ByteArray) : s.size = (bytesOf s).length := by simp [bytesOf]
theorem bstr (l : List UInt8) : bytesOf (strOf l) = l := by simp [bytesOf, strOf]
theorem strb (s : ByteArray) : strOf (bytesOf s) = s := by cases s; simp [bytesOf, strOf]
theorem linesB_nil {s : ByteArray} (h : ¬ 0 < s.size) : linesB s = [] := by
  have : s.size = 0 := by omega
  unfold linesB
  rw [this]; rfl
theorem linesB_step {s : ByteArray} (h : 0 < s.size) : linesB s = strOf ((bytesOf s).take (cutL (bytesOf s))) :: linesB (strOf ((bytesOf s).drop (cutL (bytesOf s)))) := by
  have h0 : bytesOf s ≠ [] := fun e => by rw [bsize, e] at h; exact absurd h (by decide)
  have hc := cutL_pos h0
  have hl := bsize s
  unfold linesB
  obtain ⟨n, hn⟩ : ∃ n, s.size = n + 1 := ⟨s.size - 1, by omega⟩
  have hd : (strOf ((bytesOf s).drop (cutL (bytesOf s)))).size = s.size - cutL (bytesOf s) := by rw [bsize, bstr, List.length_drop, hl]
  rw [hn]
  show (if bytesOf s = [] then [] else _ :: linesN n _).map strOf = _
  rw [if_neg h0, List.map_cons, bstr, hd, linesN_any n (s.size - cutL (bytesOf s)) _ (by rw [List.length_drop]; omega) (by rw [List.length_drop]; omega)]
def takeLine (s : ByteArray) : ByteArray := strOf ((bytesOf s).take (cutL (bytesOf s)))
def dropLine (s : ByteArray) : ByteArray := strOf ((bytesOf s).drop (cutL (bytesOf s)))
theorem dropLine_lt {s : ByteArray} (h : 0 < s.size) : (dropLine s).size < s.size := by
  have h0 : bytesOf s ≠ [] := fun e => by rw [bsize, e] at h; exact absurd h (by decide)
  have hc := cutL_pos h0
  have hl := bsize s
  unfold dropLine
  rw [bsize, bstr, List.length_drop]
  omega
theorem extract_take (s : ByteArray) (k : Nat) : s.extract 0 k = strOf ((bytesOf s).take k) := by
  apply ByteArray.ext
  apply Array.ext'
  simp [strOf, bytesOf]
theorem extract_drop (s : ByteArray) (k : Nat) : s.extract k s.size = strOf ((bytesOf s).drop k) := by
  apply ByteArray.ext
  apply Array.ext'
  simp [strOf, bytesOf]
  refine List.take_of_length_le ?_
  rw [List.length_drop]
  exact Nat.le_refl _
def okLen (s : ByteArray) : Option Unit := if s.size ≤ 4611686018427387904 then some () else none
theorem okLen_spec {s : ByteArray} {u : Unit} (h : okLen s = some u) : s.size ≤ 4611686018427387904 := by
  unfold okLen at h
  split at h
  · assumption
  · cases h
set_option maxRecDepth 10000 in
theorem i64_id {x : Int} (h : -9223372036854775808 ≤ x) (h' : x ≤ 9223372036854775807) : IntKind.i64.wrap x = x := by
  simp [IntKind.wrap, IntKind.signed, IntKind.bits]
  omega
theorem line_some {s : ByteArray} (hs : s.size ≤ 4611686018427387904) (h : nIdxB (bytesOf s) 10 ≥ 0) : ssub s 0 (IntKind.i64.wrap (nIdxB (bytesOf s) 10 + 1)) = some (takeLine s) ∧ ssub s (IntKind.i64.wrap (nIdxB (bytesOf s) 10 + 1)) ((ByteArray.size s : Nat) : Int) = some (dropLine s) := by
  have hb := nIdxB_lt (bytesOf s)
  have hl := bsize s
  rw [i64_id (by omega) (by omega)]
  have hc : cutL (bytesOf s) = (nIdxB (bytesOf s) 10 + 1).toNat := by unfold cutL; rw [if_pos h]; omega
  constructor
  · unfold ssub takeLine
    rw [if_pos ⟨by omega, by omega, by omega⟩, hc]
    exact congrArg some (extract_take _ _)
  · unfold ssub dropLine
    rw [if_pos ⟨by omega, by omega, by omega⟩, hc]
    exact congrArg some (extract_drop _ _)
theorem line_none {s : ByteArray} (h : ¬ nIdxB (bytesOf s) 10 ≥ 0) : takeLine s = s ∧ dropLine s = strOf [] := by
  have hc : cutL (bytesOf s) = (bytesOf s).length := by unfold cutL; rw [if_neg h]
  unfold takeLine dropLine
  rw [hc, List.take_length, List.drop_length]
  exact ⟨strb s, rfl⟩
def lineF (s : ByteArray) : Option (ByteArray ⊕ ByteArray) := if 0 < s.size then some (.inl (dropLine s)) else some (.inr s)
theorem lineF_loop : ∀ (n : Nat) (s : ByteArray), s.size ≤ n → ∃ r, loopN lineF (n + 1) s = some r
  | 0, s, h => ⟨s, by
    have e : lineF s = some (.inr s) := by unfold lineF; rw [if_neg (by omega)]
    simp only [loopN, e]⟩
  | n + 1, s, h => by
    by_cases h0 : 0 < s.size
    · have e : lineF s = some (.inl (dropLine s)) := by unfold lineF; rw [if_pos h0]
      obtain ⟨r, hr⟩ := lineF_loop n _ (by have := dropLine_lt h0; omega : (dropLine s).size ≤ n)
      exact ⟨r, by simp only [loopN, e] at hr ⊢; exact hr⟩
    · have e : lineF s = some (.inr s) := by unfold lineF; rw [if_neg h0]
      exact ⟨s, by simp only [loopN, e]⟩
end Go.Gv
