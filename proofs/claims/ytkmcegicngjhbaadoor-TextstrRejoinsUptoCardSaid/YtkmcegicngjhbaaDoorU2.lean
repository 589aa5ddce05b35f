import Derived.Test.YtkmcegicngjhbaaDoorU1
set_option linter.all false
namespace Go.Gv.R
open Go Go.Gv Go.Gv.D Go.Lib

theorem i32_small {x : Int} (h : 0 ≤ x) (h' : x < 2147483648) : IntKind.i32.wrap x = x := by
  simp only [IntKind.wrap, IntKind.signed, IntKind.bits, Bool.true_and]
  rw [if_neg (by simp; omega)]
  omega
theorem or32 (a b k : Nat) (hb : b < 2 ^ k) (h : 2 ^ k * a + b < 2147483648) : bwOr .i32 ((2 ^ k * a : Nat) : Int) (b : Int) = ((2 ^ k * a + b : Nat) : Int) := by
  unfold bwOr
  rw [show IntKind.i32.bits = 32 from rfl, ofInt_nat, ofInt_nat, BitVec.toNat_or, BitVec.toNat_ofNat, BitVec.toNat_ofNat]
  rw [Nat.mod_eq_of_lt (by omega), Nat.mod_eq_of_lt (by omega), ← Nat.two_pow_add_eq_or_of_lt hb]
  exact i32_small (by omega) (by omega)
theorem and_u8 {b : Nat} (h : b < 256) : bwAnd .u8 (b : Int) 7 = ((b % 8 : Nat) : Int) ∧ bwAnd .u8 (b : Int) 15 = ((b % 16 : Nat) : Int) ∧ bwAnd .u8 (b : Int) 31 = ((b % 32 : Nat) : Int) ∧ bwAnd .u8 (b : Int) 63 = ((b % 64 : Nat) : Int) := by
  have k : ((List.range 256).all fun b => decide (bwAnd .u8 ((b : Nat) : Int) 7 = ((b % 8 : Nat) : Int)) && (decide (bwAnd .u8 ((b : Nat) : Int) 15 = ((b % 16 : Nat) : Int)) && (decide (bwAnd .u8 ((b : Nat) : Int) 31 = ((b % 32 : Nat) : Int)) && decide (bwAnd .u8 ((b : Nat) : Int) 63 = ((b % 64 : Nat) : Int))))) = true := by kernel_rfl
  have := List.all_eq_true.1 k b (List.mem_range.2 h)
  simpa only [Bool.and_eq_true, decide_eq_true_eq] using this
theorem sh32 (a k : Nat) (h : 2 ^ k * a < 2147483648) : IntKind.i32.wrap (IntKind.i32.wrap (a : Int) * 2 ^ k) = ((2 ^ k * a : Nat) : Int) := by
  have hp := Nat.two_pow_pos k
  have ha : a ≤ 2 ^ k * a := Nat.le_mul_of_pos_left _ hp
  have e : (a : Int) * 2 ^ k = ((2 ^ k * a : Nat) : Int) := by rw [Nat.mul_comm]; simp
  rw [i32_small (x := (a : Int)) (by omega) (by omega), e, i32_small (by omega) (by omega)]
theorem slow_byte {b : Nat} (h : b < 256) (hf : 240 ≤ firstT b) : bwOr .i32 (bwAndNot .i32 (IntKind.i32.wrap (b : Int)) ((IntKind.i32.wrap (IntKind.i32.wrap (firstT b : Int) * 2 ^ 31)).fdiv (2 ^ 31))) (bwAnd .i32 65533 ((IntKind.i32.wrap (IntKind.i32.wrap (firstT b : Int) * 2 ^ 31)).fdiv (2 ^ 31))) = if firstT b = 240 then (b : Int) else 65533 := by
  have k : ((List.range 256).all fun b => !(Nat.ble 240 (firstT b)) || decide (bwOr .i32 (bwAndNot .i32 (IntKind.i32.wrap ((b : Nat) : Int)) ((IntKind.i32.wrap (IntKind.i32.wrap (firstT b : Int) * 2 ^ 31)).fdiv (2 ^ 31))) (bwAnd .i32 65533 ((IntKind.i32.wrap (IntKind.i32.wrap (firstT b : Int) * 2 ^ 31)).fdiv (2 ^ 31))) = if firstT b = 240 then ((b : Nat) : Int) else 65533)) = true := by kernel_rfl
  have := List.all_eq_true.1 k b (List.mem_range.2 h)
  rw [Nat.ble_eq_true_of_le hf] at this
  simpa only [Bool.not_true, Bool.false_or, decide_eq_true_eq] using this
theorem firstT_240 {b : Nat} (h : 240 ≤ firstT b) : firstT b = 240 ∨ firstT b = 241 := by
  have : firstT b = 240 ∨ firstT b = 241 ∨ firstT b < 240 := by unfold firstT; (repeat' split) <;> omega
  omega
theorem first_240 {b : Nat} (h : firstT b = 240) : b < 128 := by
  unfold firstT at h
  (repeat' split at h) <;> simp_all
theorem getD_idx {l : List UInt8} {i : Nat} (h : i < l.length) : idx l (i : Int) = some (l.getD i 0) := by
  rw [idx_nat h]; simp [h]
end Go.Gv.R
