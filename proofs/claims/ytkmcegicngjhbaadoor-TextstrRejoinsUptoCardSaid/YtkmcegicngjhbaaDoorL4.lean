import Derived.Test.YtkmcegicngjhbaaDoorL3
set_option linter.all false
namespace Go.Gv.R
open Go Go.Gv Go.Gv.D

theorem ints_len (l : List Nat) : (ints l).length = l.length := by simp [ints]
theorem ints_app (l m : List Nat) : ints (l ++ m) = ints l ++ ints m := by simp [ints]
theorem ints_get {l : List Nat} {i : Nat} (h : i < l.length) : idx (ints l) (i : Int) = some ((l[i] : Nat) : Int) := by
  rw [idx_nat (by rw [ints_len]; exact h)]
  simp [ints]
theorem bit_at (m k : Nat) (hm : m < 256) (hk : k ≤ 8) : bwAnd .i64 (shrI .i64 (m : Int) (k : Int)) 1 = ((m / 2 ^ k % 2 : Nat) : Int) := by
  have hd : m / 2 ^ k ≤ m := Nat.div_le_self ..
  rw [shr_div _ _ (by omega), show (1 : Int) = ((2 ^ 1 - 1 : Nat) : Int) from rfl, and_mod _ 1 (by omega) (by decide)]
theorem bits8_eq (x : UInt8) : bits8 x = (List.range 8).map fun k => x.toNat / 2 ^ (7 - k) % 2 := rfl
theorem take6 {l : List Nat} {i : Nat} (h : 6 * i + 6 ≤ l.length) : letters6 (l.take (6 * (i + 1))) = letters6 (l.take (6 * i)) ++ [lt (32 * l[6 * i] + 16 * l[6 * i + 1] + 8 * l[6 * i + 2] + 4 * l[6 * i + 3] + 2 * l[6 * i + 4] + l[6 * i + 5])] := by
  have e : l.take (6 * (i + 1)) = l.take (6 * i) ++ [l[6 * i], l[6 * i + 1], l[6 * i + 2], l[6 * i + 3], l[6 * i + 4], l[6 * i + 5]] := by
    rw [show 6 * (i + 1) = 6 * i + 1 + 1 + 1 + 1 + 1 + 1 by omega, take_snoc (by omega), take_snoc (by omega), take_snoc (by omega), take_snoc (by omega), take_snoc (by omega), take_snoc (by omega)]
    simp only [List.append_assoc, List.cons_append, List.nil_append]
  rw [e, letters6_app _ (by simp; omega)]
  rfl
theorem pad6_len (l : List Nat) : (pad6 l).length % 6 = 0 ∧ l.length ≤ (pad6 l).length ∧ (pad6 l).length < l.length + 6 := by
  simp [pad6]; omega
theorem pad6_bit {l : List Nat} (h : ∀ n ∈ l, n ≤ 1) : ∀ n ∈ pad6 l, n ≤ 1 := fun n hn => by
  rcases List.mem_append.1 hn with h' | h'
  · exact h n h'
  · have := (List.mem_replicate.1 h').2; omega

end Go.Gv.R
