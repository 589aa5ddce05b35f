import Derived.Test.YtkmcegicngjhbaaGreatDoorU1
import Derived.Lib.Replace
import Derived.Test.YtkmcegicngjhbaaGreatDoorM5
set_option linter.all false
namespace Go.Gv.R
open Go Go.Gv Go.Gv.D Go.Lib

/-! ### a scalar within a text of scalars -/
/-! ### one scalar taken out -/
end Go.Gv.R
namespace Go.Gv.R
open Go Go.Gv Go.Gv.D Go.Lib

/-! first occurrences -/
/-! the parts between occurrences, at most k of them cut off -/
end Go.Gv.R
namespace Go.Gv.R
open Go Go.Gv Go.Gv.D Go.Lib

/-! runes of texts -/
theorem encode_str {r : Nat} (h : Scal r) : Utf8.encode (r : Int) = strOf (encR r) := by
  have hv : Utf8.valid (r : Int) = true := by
    unfold Utf8.valid
    rcases h with h | ⟨h1, h2⟩
    · rw [decide_eq_true (show (0 : Int) ≤ (r : Int) by omega), decide_eq_true (show (r : Int) < 0xD800 by omega)]; rfl
    · rw [decide_eq_true (show (0xE000 : Int) ≤ (r : Int) by omega), decide_eq_true (show (r : Int) ≤ 0x10FFFF by omega), Bool.and_true, Bool.or_true]
  have hs := scal_i32 h
  unfold Utf8.encode
  simp only [hv, if_true, Int.toNat_natCast]
  by_cases h1 : r < 0x80
  · rw [if_pos h1, encR1 (by omega)]; rfl
  · rw [if_neg h1]
    by_cases h2 : r < 0x800
    · rw [if_pos h2, encR2 (by omega) (by omega)]; rfl
    · rw [if_neg h2]
      by_cases h3 : r < 0x10000
      · rw [if_pos h3, encR3 (by omega) (by omega) h]; rfl
      · rw [if_neg h3, encR4 (by omega) hs]; rfl
theorem strR_fold : ∀ (p : List Nat) (l : List UInt8), (∀ r ∈ p, Scal r) → (ints p).foldl (fun r n => r ++ Utf8.encode n) (strOf l) = strOf (l ++ enc p)
  | [], l, _ => by simp [ints, enc]
  | c :: p, l, h => by
    have hc := h c (List.mem_cons_self ..)
    show (ints p).foldl _ (strOf l ++ Utf8.encode (c : Int)) = _
    rw [encode_str hc, show strOf l ++ strOf (encR c) = strOf (l ++ encR c) from Option.some.inj (by have h := cat_str (l := l) (m := encR c); unfold cat at h; by_cases hl : l.length + (encR c).length ≤ 9223372036854775807 <;> first | (have := h hl; rwa [if_pos (by rw [size_str, size_str]; exact hl)] at this) | rfl), strR_fold p _ (fun r hr => h r (List.mem_cons_of_mem _ hr)), enc_cons, List.append_assoc]
theorem strR_ints {p : List Nat} (h : ∀ r ∈ p, Scal r) : strR (ints p) = strOf (enc p) := by
  have := strR_fold p [] h
  rw [List.nil_append] at this
  exact this
theorem rnF_enc : ∀ (b a p : List Nat) (n : Nat), (∀ r ∈ p, Scal r) → p = a ++ b → (enc b).length ≤ n → rnF (strOf (enc p)) n (enc a).length = ints b
  | [], a, p, n, _, e, _ => by
    rw [List.append_nil] at e; subst e
    cases n with
    | zero => rfl
    | succ n => unfold rnF; rw [if_neg (by rw [size_str]; omega)]; rfl
  | c :: b, a, p, n, hp, e, hn => by
    have hc : Scal c := hp c (by rw [e]; simp)
    have hcp := encR_pos c
    rw [enc_cons, List.length_append] at hn
    obtain ⟨n, rfl⟩ : ∃ m, n = m + 1 := ⟨n - 1, by omega⟩
    obtain ⟨hr1, hr2⟩ := rune_at (s := strOf (enc p)) (p := a) (t := b) hc (by rw [bytes_str, e])
    unfold rnF
    rw [if_pos (by rw [size_str, e, enc_app, enc_cons, List.length_append, List.length_append]; omega), hr1, hr2]
    have := rnF_enc b (a ++ [c]) p n hp (by rw [e]; simp) (by omega)
    rw [enc_snoc, List.length_append] at this
    rw [this]; rfl
theorem rn_enc {p : List Nat} (h : ∀ r ∈ p, Scal r) (hl : (enc p).length ≤ 1048576) : rn (strOf (enc p)) = some (ints p) := by
  unfold rn
  rw [if_pos (by rw [size_str]; omega)]
  have := rnF_enc p [] p (strOf (enc p)).size h rfl (by rw [size_str]; omega)
  exact congrArg some this
/-! the reference's searches over lists -/
end Go.Gv.R

