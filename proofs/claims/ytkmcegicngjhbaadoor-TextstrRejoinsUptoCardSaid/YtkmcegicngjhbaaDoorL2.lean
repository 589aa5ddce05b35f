import Derived.Test.YtkmcegicngjhbaaDoorL1
set_option linter.all false
namespace Go.Gv.R
open Go Go.Gv Go.Gv.D

theorem ofInt_nat (n m : Nat) : BitVec.ofInt n (m : Int) = BitVec.ofNat n m := by simp
theorem and_mod (m k : Nat) (h : m < 4611686018427387904) (hk : k ≤ 32) : bwAnd .i64 (m : Int) ((2 ^ k - 1 : Nat) : Int) = ((m % 2 ^ k : Nat) : Int) := by
  unfold bwAnd
  rw [show IntKind.i64.bits = 64 from rfl, ofInt_nat, ofInt_nat, BitVec.toNat_and, BitVec.toNat_ofNat, BitVec.toNat_ofNat]
  have hk2 : 2 ^ k ≤ 2 ^ 32 := Nat.pow_le_pow_right (by decide) hk
  rw [Nat.mod_eq_of_lt (a := m) (by omega), Nat.mod_eq_of_lt (a := 2 ^ k - 1) (by omega), Nat.and_two_pow_sub_one_eq_mod]
  have : m % 2 ^ k ≤ m := Nat.mod_le ..
  exact i64_small (by omega) (by omega)
theorem or_add (a b k : Nat) (hb : b < 2 ^ k) (h : 2 ^ k * a + b < 4611686018427387904) : bwOr .i64 ((2 ^ k * a : Nat) : Int) (b : Int) = ((2 ^ k * a + b : Nat) : Int) := by
  unfold bwOr
  rw [show IntKind.i64.bits = 64 from rfl, ofInt_nat, ofInt_nat, BitVec.toNat_or, BitVec.toNat_ofNat, BitVec.toNat_ofNat]
  rw [Nat.mod_eq_of_lt (by omega), Nat.mod_eq_of_lt (by omega), ← Nat.two_pow_add_eq_or_of_lt hb]
  exact i64_small (by omega) (by omega)
theorem shr_div (m k : Nat) (h : k ≤ 64) : shrI .i64 (m : Int) (k : Int) = ((m / 2 ^ k : Nat) : Int) := by
  unfold shrI
  rw [Int.toNat_natCast, show min k IntKind.i64.bits = k by show min k 64 = k; omega, Int.fdiv_eq_ediv_of_nonneg _ (Int.le_of_lt (Int.pow_pos (by decide)))]
  simp

/-! ### four letters for three bytes -/
def letT : List UInt8 := [65, 66, 67, 68, 69, 70, 71, 72, 73, 74, 75, 76, 77, 78, 79, 80, 81, 82, 83, 84, 85, 86, 87, 88, 89, 90, 97, 98, 99, 100, 101, 102, 103, 104, 105, 106, 107, 108, 109, 110, 111, 112, 113, 114, 115, 116, 117, 118, 119, 120, 121, 122, 48, 49, 50, 51, 52, 53, 54, 55, 56, 57, 43, 47]
def lt (n : Nat) : UInt8 := letT.getD n 0
def num3 (y : List UInt8) : Nat := (y.getD 0 0).toNat * 65536 + (y.getD 1 0).toNat * 256 + (y.getD 2 0).toNat
def quad (y : List UInt8) : List UInt8 := (List.range 4).map fun k => if k ≤ y.length then lt (num3 y / 2 ^ (18 - 6 * k) % 64) else 61
theorem num3_lt (y : List UInt8) : num3 y < 16777216 := by
  have a := byte_lt (y.getD 0 0)
  have b := byte_lt (y.getD 1 0)
  have c := byte_lt (y.getD 2 0)
  unfold num3
  omega
theorem sidx_let {i : Nat} (h : i < 64) : sidx (strOf [65, 66, 67, 68, 69, 70, 71, 72, 73, 74, 75, 76, 77, 78, 79, 80, 81, 82, 83, 84, 85, 86, 87, 88, 89, 90, 97, 98, 99, 100, 101, 102, 103, 104, 105, 106, 107, 108, 109, 110, 111, 112, 113, 114, 115, 116, 117, 118, 119, 120, 121, 122, 48, 49, 50, 51, 52, 53, 54, 55, 56, 57, 43, 47]) (i : Int) = some ((lt i).toNat : Int) := by
  have h' : i < (bytesOf (strOf letT)).length := by rw [bytes_str]; exact h
  have := sidx_nat (s := strOf letT) (i := i) h'
  show sidx (strOf letT) (i : Int) = _
  rw [this]
  have hl : i < letT.length := h
  have e : lt i = letT[i] := by unfold lt; simp [hl]
  rw [e]
  simp only [bytes_str]

theorem quad_take (y : List UInt8) : ∀ k, k ≤ 4 → ((List.range k).map fun k => if k ≤ y.length then lt (num3 y / 2 ^ (18 - 6 * k) % 64) else 61).length = k := fun k _ => by simp

def b64L (b : List UInt8) : List UInt8 := (chunks b).flatMap quad

end Go.Gv.R
