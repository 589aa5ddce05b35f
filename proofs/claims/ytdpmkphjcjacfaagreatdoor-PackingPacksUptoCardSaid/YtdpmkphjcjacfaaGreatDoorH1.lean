import Derived.Test.YtdpmkphjcjacfaaGreatDoorF0
import Derived.Test.YtdpmkphjcjacfaaGreatDoorGo
set_option linter.all false
namespace Go.Gv.P
open Go Go.Gv Go.Gv.D Go.Gv.R
set_option maxRecDepth 100000

/-! ### integers as values, words -/
def lim (m : Nat) : List Int := if m = 0 then [] else if m < 4294967296 then [(m : Int)] else [((m % 4294967296 : Nat) : Int), ((m / 4294967296 : Nat) : Int)]
theorem u32_wrap' (x : Int) : IntKind.u32.wrap x = x % 4294967296 := by simp [IntKind.wrap, IntKind.signed, IntKind.bits]
theorem lim_len (m : Nat) : (lim m).length ≤ 2 := by unfold lim; split <;> (try split) <;> simp
theorem Of_lim {n : Int} (h0 : -9223372036854775808 ≤ n) (h1 : n ≤ 9223372036854775807) : Tot (fun fuel => integer_Of fuel n) (· = (decide (n < 0), lim n.natAbs)) := by
  unfold integer_Of
  refine Tot.bindq (P := (· = ((n.natAbs : Nat) : Int))) (Tot.ite (fun h => Tot.some_bind (Tot.ret ?_)) (fun h => Tot.ret ?_)) fun u hu => ?_
  · have h : n < 0 := of_decide_eq_true h
    rw [u64_wrap, u64_wrap]; omega
  · have h : ¬ n < 0 := of_decide_eq_false h
    rw [u64_wrap]; omega
  subst hu
  have hm : n.natAbs ≤ 9223372036854775808 := by omega
  generalize n.natAbs = m at hm ⊢
  refine Tot.bindq (P := (· = lim m)) ?_ fun x hx => Tot.ret (by rw [hx])
  have hf : ((m : Nat) : Int).fdiv (2 ^ 32) = ((m / 4294967296 : Nat) : Int) := by rw [Int.fdiv_eq_ediv_of_nonneg _ (by decide)]; omega
  rw [hf, u32_wrap', u32_wrap', show ((m : Nat) : Int) % 4294967296 = ((m % 4294967296 : Nat) : Int) by omega, show ((m / 4294967296 : Nat) : Int) % 4294967296 = ((m / 4294967296 : Nat) : Int) by omega]
  have tail : ∀ (l : List Int) (x : Int), (l ++ [x]).length = l.length + 1 := fun l x => by simp
  refine Tot.loop (fun st => st = [((m % 4294967296 : Nat) : Int), ((m / 4294967296 : Nat) : Int)] ∨ (m < 4294967296 ∧ st = [(m : Int)]) ∨ (m = 0 ∧ st = [])) (fun st => st.length) (.inl rfl) fun st hI => ?_
  rcases hI with e | ⟨hs, e⟩ | ⟨hs, e⟩
  · subst e
    refine Tot.bindq (P := (· = (((m / 4294967296 : Nat) : Int) == 0))) (Tot.it rfl (Tot.bind0 (idx_nat (i := 1) (by simp)) (Tot.ret rfl))) fun b hb => ?_
    subst hb
    refine Tot.ite (fun h => ?_) (fun h => Tot.ret ?_)
    · have h : ((m / 4294967296 : Nat) : Int) = 0 := beq_iff_eq.1 h
      have hsm : m < 4294967296 := by omega
      refine Tot.bind0 (a := [((m % 4294967296 : Nat) : Int)]) rfl (Tot.ret ?_)
      rw [Nat.mod_eq_of_lt hsm]
      exact ⟨.inr (.inl ⟨hsm, rfl⟩), by show 1 < 2; decide⟩
    · have h : ¬ ((m / 4294967296 : Nat) : Int) = 0 := beq_eq_false_iff_ne.1 h
      show _ = _
      unfold lim
      rw [if_neg (by omega), if_neg (by omega)]
  · subst e
    refine Tot.bindq (P := (· = ((m : Int) == 0))) (Tot.it rfl (Tot.bind0 (idx_nat (i := 0) (by simp)) (Tot.ret rfl))) fun b hb => ?_
    subst hb
    refine Tot.ite (fun h => ?_) (fun h => Tot.ret ?_)
    · have h : (m : Int) = 0 := beq_iff_eq.1 h
      refine Tot.bind0 (a := []) rfl (Tot.ret ?_)
      exact ⟨.inr (.inr ⟨by omega, rfl⟩), by show 0 < 1; decide⟩
    · have h : ¬ (m : Int) = 0 := beq_eq_false_iff_ne.1 h
      show _ = _
      unfold lim
      rw [if_neg (by omega), if_pos hs]
  · subst e
    refine Tot.bindq (P := (· = false)) (Tot.if_ rfl (Tot.ret rfl)) fun b hb => ?_
    subst hb
    refine Tot.if_ rfl (Tot.ret ?_)
    show _ = _
    unfold lim
    rw [if_pos hs]
abbrev Val := Int × (Bool × List Int) × (Bool × List Int) × ByteArray × Int
def valOf (n : Int) : Val := (2, (decide (n < 0), lim n.natAbs), (false, []), strOf [], 0)
theorem whole_tot {n : Int} (h0 : -9223372036854775808 ≤ n) (h1 : n ≤ 9223372036854775807) : Tot (fun fuel => packing_whole fuel n) (· = valOf n) := by
  unfold packing_whole
  exact Tot.bindq (Of_lim h0 h1) fun r hr => Tot.ret (by rw [hr]; rfl)
theorem i64_range (x : Int) : -9223372036854775808 ≤ IntKind.i64.wrap x ∧ IntKind.i64.wrap x ≤ 9223372036854775807 := by
  simp [IntKind.wrap, IntKind.signed, IntKind.bits]
  omega
theorem or64_zero {b : Int} (hb : 0 ≤ b ∧ b < 18446744073709551616) : bwOr .u64 0 b = b := by
  unfold bwOr
  have h1 : (BitVec.ofInt 64 0 ||| BitVec.ofInt 64 b).toNat = b.toNat := by
    rw [BitVec.toNat_or]
    have e2 : (BitVec.ofInt 64 b).toNat = b.toNat := by simp only [BitVec.toNat_ofInt]; omega
    rw [e2]
    simp
  show IntKind.u64.wrap ((BitVec.ofInt 64 0 ||| BitVec.ofInt 64 b).toNat : Int) = _
  rw [h1, u64_wrap]
  omega
theorem or64_shift {a b : Int} (ha : 0 ≤ a ∧ a < 4294967296) (hb : 0 ≤ b ∧ b < 4294967296) : bwOr .u64 a (b * 4294967296) = a + b * 4294967296 := by
  unfold bwOr
  have h1 : (BitVec.ofInt 64 a ||| BitVec.ofInt 64 (b * 4294967296)).toNat = a.toNat + b.toNat * 4294967296 := by
    rw [BitVec.toNat_or]
    have e1 : (BitVec.ofInt 64 a).toNat = a.toNat := by simp only [BitVec.toNat_ofInt]; omega
    have e2 : (BitVec.ofInt 64 (b * 4294967296)).toNat = 2 ^ 32 * b.toNat := by simp only [BitVec.toNat_ofInt]; omega
    rw [e1, e2, Nat.or_comm, ← Nat.two_pow_add_eq_or_of_lt (by omega)]
    omega
  show IntKind.u64.wrap ((BitVec.ofInt 64 a ||| BitVec.ofInt 64 (b * 4294967296)).toNat : Int) = _
  rw [h1, u64_wrap]
  omega
theorem shl64 (x : Int) (k : Nat) (hk : k ≤ 64) : shlI .u64 x (k : Int) = (x * 2 ^ k) % 18446744073709551616 := by
  unfold shlI
  rw [show min ((k : Nat) : Int).toNat IntKind.u64.bits = k by show min ((k : Nat) : Int).toNat 64 = k; omega, u64_wrap]
end Go.Gv.P
namespace Go.Gv.P
open Go Go.Gv Go.Gv.D Go.Gv.R
set_option maxRecDepth 100000

/-! ### numbers of seven bits -/
def vint : Nat → Nat → List UInt8
  | 0, u => [u.toUInt8]
  | k + 1, u => if 128 ≤ u then (u % 128 + 128).toUInt8 :: vint k (u / 128) else [u.toUInt8]
def zig (n : Int) : Nat := if n < 0 then (-2 * n - 1).toNat else (2 * n).toNat
theorem zig_lt {n : Int} (h0 : -9223372036854775808 ≤ n) (h1 : n ≤ 9223372036854775807) : zig n < 18446744073709551616 := by
  unfold zig; split <;> omega
theorem vint_len : ∀ (k u : Nat), 1 ≤ (vint k u).length ∧ (vint k u).length ≤ k + 1
  | 0, _ => ⟨Nat.le_refl _, Nat.le_refl _⟩
  | k + 1, u => by
    have := vint_len k (u / 128)
    unfold vint
    split
    · simp only [List.length_cons]; omega
    · simp
theorem toU8 {u : Nat} (h : u < 256) : (u.toUInt8).toNat = u := UInt8.toNat_ofNat_of_lt' (show u < 256 from h)
theorem xor_ones {x : Int} (h : 0 ≤ x ∧ x < 18446744073709551616) : bwXor .u64 x 18446744073709551615 = 18446744073709551615 - x := by
  unfold bwXor
  have h1 : (BitVec.ofInt 64 x ^^^ BitVec.ofInt 64 18446744073709551615).toNat = (18446744073709551615 - x).toNat := by
    rw [show BitVec.ofInt 64 18446744073709551615 = BitVec.allOnes 64 by decide, BitVec.xor_allOnes, BitVec.toNat_not]
    simp only [BitVec.toNat_ofInt]
    omega
  show IntKind.u64.wrap ((BitVec.ofInt 64 x ^^^ BitVec.ofInt 64 18446744073709551615).toNat : Int) = _
  rw [h1, u64_wrap]
  omega
theorem xor_none {x : Int} (h : 0 ≤ x ∧ x < 18446744073709551616) : bwXor .u64 x 0 = x := by
  unfold bwXor
  have h1 : (BitVec.ofInt 64 x ^^^ BitVec.ofInt 64 0).toNat = x.toNat := by
    rw [show BitVec.ofInt 64 0 = 0#64 by decide, BitVec.xor_zero]
    simp only [BitVec.toNat_ofInt]
    omega
  show IntKind.u64.wrap ((BitVec.ofInt 64 x ^^^ BitVec.ofInt 64 0).toNat : Int) = _
  rw [h1, u64_wrap]
  omega
theorem zig_xor {n : Int} (h0 : -9223372036854775808 ≤ n) (h1 : n ≤ 9223372036854775807) : bwXor .u64 (IntKind.u64.wrap (n % 18446744073709551616 * 2 ^ 1)) (IntKind.u64.wrap (0 - ((n % 18446744073709551616).fdiv (2 ^ 63)))) = (zig n : Int) := by
  unfold zig
  rw [Int.fdiv_eq_ediv_of_nonneg _ (by decide), u64_wrap, u64_wrap]
  by_cases h : n < 0
  · rw [if_pos h, show (0 - n % 18446744073709551616 / 2 ^ 63) % 18446744073709551616 = 18446744073709551615 by omega, xor_ones (by omega)]
    omega
  · rw [if_neg h, show (0 - n % 18446744073709551616 / 2 ^ 63) % 18446744073709551616 = 0 by omega, xor_none (by omega)]
    omega
theorem or128 {u : Nat} (h : u < 256) : bwOr .u8 (u : Int) 128 = ((u % 128 + 128 : Nat) : Int) := by
  have := List.all_eq_true.1 (show (List.range 256).all (fun u => bwOr .u8 (u : Int) 128 == ((u % 128 + 128 : Nat) : Int)) = true by kernel_rfl) u (List.mem_range.2 h)
  exact beq_iff_eq.1 this
end Go.Gv.P
namespace Go.Gv.P
open Go Go.Gv Go.Gv.D Go.Gv.R
set_option maxRecDepth 100000

/-! ### one whole number packed and read again -/
def zv : Val := (0, (false, []), (false, []), strOf [], 0)
end Go.Gv.P

