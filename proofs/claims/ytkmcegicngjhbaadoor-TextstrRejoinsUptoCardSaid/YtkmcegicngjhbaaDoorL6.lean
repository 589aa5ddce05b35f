import Derived.Test.YtkmcegicngjhbaaDoorL5
set_option linter.all false
namespace Go.Gv.R
open Go Go.Gv Go.Gv.D

/-! ### letters are read -/
def lv (x : UInt8) : Int := nIdxB [(65 : UInt8), (66 : UInt8), (67 : UInt8), (68 : UInt8), (69 : UInt8), (70 : UInt8), (71 : UInt8), (72 : UInt8), (73 : UInt8), (74 : UInt8), (75 : UInt8), (76 : UInt8), (77 : UInt8), (78 : UInt8), (79 : UInt8), (80 : UInt8), (81 : UInt8), (82 : UInt8), (83 : UInt8), (84 : UInt8), (85 : UInt8), (86 : UInt8), (87 : UInt8), (88 : UInt8), (89 : UInt8), (90 : UInt8), (97 : UInt8), (98 : UInt8), (99 : UInt8), (100 : UInt8), (101 : UInt8), (102 : UInt8), (103 : UInt8), (104 : UInt8), (105 : UInt8), (106 : UInt8), (107 : UInt8), (108 : UInt8), (109 : UInt8), (110 : UInt8), (111 : UInt8), (112 : UInt8), (113 : UInt8), (114 : UInt8), (115 : UInt8), (116 : UInt8), (117 : UInt8), (118 : UInt8), (119 : UInt8), (120 : UInt8), (121 : UInt8), (122 : UInt8), (48 : UInt8), (49 : UInt8), (50 : UInt8), (51 : UInt8), (52 : UInt8), (53 : UInt8), (54 : UInt8), (55 : UInt8), (56 : UInt8), (57 : UInt8), (43 : UInt8), (47 : UInt8)] (x.toNat : Int)
theorem lv_lt {n : Nat} (h : n < 64) : lv (lt n) = (n : Int) := by
  have : ((List.range 64).all fun n => lv (lt n) == ((n : Nat) : Int)) = true := by kernel_rfl
  exact eq_of_beq (List.all_eq_true.1 this n (List.mem_range.2 h))
theorem lv_eq : lv 61 = -1 := by kernel_rfl
theorem lv_ge (x : UInt8) : -1 ≤ lv x ∧ lv x < 64 := by
  have h : ((List.range 256).all fun n => decide (-1 ≤ lv (UInt8.ofNat n)) && decide (lv (UInt8.ofNat n) < 64)) = true := by kernel_rfl
  have := byte_all (p := fun n => decide (-1 ≤ lv (UInt8.ofNat n)) && decide (lv (UInt8.ofNat n) < 64)) h x
  simpa only [UInt8.ofNat_toNat, Bool.and_eq_true, decide_eq_true_eq] using this
theorem quad_len (y : List UInt8) : (quad y).length = 4 := rfl
theorem quad_get (y : List UInt8) {k : Nat} (h : k < 4) : (quad y)[k]'(by rw [quad_len]; exact h) = if k ≤ y.length then lt (num3 y / 2 ^ (18 - 6 * k) % 64) else 61 := by
  unfold quad
  rw [List.getElem_map, List.getElem_range]
theorem flatMap4_len (m : List (List UInt8)) : (m.flatMap quad).length = 4 * m.length := by
  induction m with
  | nil => rfl
  | cons x m ih => rw [List.flatMap_cons, List.length_append, quad_len, ih, List.length_cons]; omega
theorem flatMap4_get : ∀ (m : List (List UInt8)) (i k : Nat) (hi : i < m.length) (hk : k < 4) (h : 4 * i + k < (m.flatMap quad).length), (m.flatMap quad)[4 * i + k] = (quad m[i])[k]'(by rw [quad_len]; exact hk)
  | [], i, k, hi, _, _ => absurd hi (Nat.not_lt_zero _)
  | x :: m, 0, k, _, hk, h => by
    simp only [Nat.mul_zero, Nat.zero_add, List.flatMap_cons, List.getElem_cons_zero]
    rw [List.getElem_append_left (by rw [quad_len]; exact hk)]
  | x :: m, i + 1, k, hi, hk, h => by
    have hi' : i < m.length := by simp only [List.length_cons] at hi; omega
    have := flatMap4_get m i k hi' hk (by rw [flatMap4_len]; omega)
    simp only [List.flatMap_cons, List.getElem_cons_succ]
    rw [← this, List.getElem_append_right (by rw [quad_len]; omega)]
    congr 1
    rw [quad_len]; omega
theorem chunk_pos {b : List UInt8} {i : Nat} (h : i < (chunks b).length) : 0 < ((chunks b)[i]).length ∧ ((chunks b)[i]).length ≤ 3 := by
  have hc : (chunks b)[i] = chunk b i := by simp [chunks]
  rw [hc, chunk_len]
  simp [chunks] at h
  omega
theorem b64L_len (b : List UInt8) : (b64L b).length = 4 * ((b.length + 2) / 3) := by
  unfold b64L
  rw [flatMap4_len]
  simp [chunks]
theorem bytes3 (y : List UInt8) (h : 0 < y.length) (h' : y.length ≤ 3) : [UInt8.ofNat (num3 y / 65536), UInt8.ofNat (num3 y / 256), UInt8.ofNat (num3 y)].take y.length = y := by
  have hw : ∀ (a : Nat) (z : UInt8), a % 256 = z.toNat → UInt8.ofNat a = z := fun a z e => by
    apply UInt8.toNat.inj
    rw [UInt8.toNat_ofNat', e]
  match y, h, h' with
  | [a], _, _ =>
    have := byte_lt a
    simp only [num3, List.getD_cons_zero, List.getD_cons_succ, List.getD_nil, List.length_cons, List.length_nil, List.take_succ_cons, List.take_zero, UInt8.toNat_zero]
    rw [hw _ a (by omega)]
  | [a, b], _, _ =>
    have := byte_lt a
    have := byte_lt b
    simp only [num3, List.getD_cons_zero, List.getD_cons_succ, List.getD_nil, List.length_cons, List.length_nil, List.take_succ_cons, List.take_zero, UInt8.toNat_zero]
    rw [hw _ a (by omega), hw _ b (by omega)]
  | [a, b, c], _, _ =>
    have := byte_lt a
    have := byte_lt b
    have := byte_lt c
    simp only [num3, List.getD_cons_zero, List.getD_cons_succ, List.getD_nil, List.length_cons, List.length_nil, List.take_succ_cons, List.take_zero]
    rw [hw _ a (by omega), hw _ b (by omega), hw _ c (by omega)]
/-- the number that the first k letters of y make -/
def part (y : List UInt8) (k : Nat) : Nat := num3 y / 2 ^ (24 - 6 * k) * 2 ^ (24 - 6 * k)
theorem part_all (y : List UInt8) (h : 0 < y.length) (h' : y.length ≤ 3) : part y (y.length + 1) = num3 y := by
  match y, h, h' with
  | [a], _, _ =>
    simp only [part, num3, List.getD_cons_zero, List.getD_cons_succ, List.getD_nil, List.length_cons, List.length_nil, UInt8.toNat_zero]
    omega
  | [a, b], _, _ =>
    simp only [part, num3, List.getD_cons_zero, List.getD_cons_succ, List.getD_nil, List.length_cons, List.length_nil, UInt8.toNat_zero]
    omega
  | [a, b, c], _, _ =>
    simp only [part, num3, List.getD_cons_zero, List.getD_cons_succ, List.getD_nil, List.length_cons, List.length_nil]
    omega
theorem part_step (y : List UInt8) {k : Nat} (h : k < 4) : part y (k + 1) = part y k + num3 y / 2 ^ (18 - 6 * k) % 64 * 2 ^ (18 - 6 * k) := by
  have := num3_lt y
  unfold part
  generalize num3 y = n at this
  rcases (by omega : k = 0 ∨ k = 1 ∨ k = 2 ∨ k = 3) with e | e | e | e <;> subst e <;> simp only [Nat.mul_zero, Nat.mul_one, Nat.reduceMul, Nat.reduceAdd, Nat.reduceSub, Nat.reducePow] <;> omega
theorem shl_mul (m k : Nat) (hk : k ≤ 64) (h : m * 2 ^ k < 4611686018427387904) : shlI .i64 (m : Int) (k : Int) = ((m * 2 ^ k : Nat) : Int) := by
  unfold shlI
  rw [Int.toNat_natCast, show min k IntKind.i64.bits = k by show min k 64 = k; omega]
  have e : (m : Int) * 2 ^ k = ((m * 2 ^ k : Nat) : Int) := by simp
  rw [e, i64_small (by omega) (by omega)]
end Go.Gv.R
