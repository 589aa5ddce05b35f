import Derived.Test.YtdpmkphjcjacfaaGreatDoorU1
import Derived.Test.YtdpmkphjcjacfaaGreatDoorH1
set_option linter.all false
namespace Go.Gv.P
open Go Go.Gv Go.Gv.D Go.Gv.RI
set_option maxRecDepth 100000
end Go.Gv.P
namespace Go.Gv.P
open Go Go.Gv Go.Gv.D Go.Gv.R
set_option maxRecDepth 100000
theorem natural_tot {u : Nat} (hu : u < 18446744073709551616) : Tot (fun fuel => packing_natural fuel (u : Int)) (· = valOf (u : Int)) := by
  unfold packing_natural
  refine Tot.bindq (whole_tot (i64_range _).1 (i64_range _).2) fun r hr => ?_
  subst hr
  have hf : ((u : Nat) : Int).fdiv (2 ^ 63) = ((u / 9223372036854775808 : Nat) : Int) := by rw [Int.fdiv_eq_ediv_of_nonneg _ (by decide)]; omega
  have hf2 : ((u : Nat) : Int).fdiv (2 ^ 32) = ((u / 4294967296 : Nat) : Int) := by rw [Int.fdiv_eq_ediv_of_nonneg _ (by decide)]; omega
  rw [hf, hf2, u32_wrap', u32_wrap']
  refine Tot.bindq (P := (· = valOf (u : Int))) (Tot.ite (fun g => Tot.ret ?_) (fun g => Tot.ret ?_)) fun j hj => Tot.ret hj
  · have g : ((u / 9223372036854775808 : Nat) : Int) = 1 := beq_iff_eq.1 g
    unfold valOf lim
    rw [decide_eq_false (show ¬ (u : Int) < 0 by omega), show ((u : Nat) : Int).natAbs = u by omega, if_neg (show ¬ u = 0 by omega), if_neg (show ¬ u < 4294967296 by omega)]
    rw [show ((u : Nat) : Int) % 4294967296 = ((u % 4294967296 : Nat) : Int) by omega, show ((u / 4294967296 : Nat) : Int) % 4294967296 = ((u / 4294967296 : Nat) : Int) by omega]
  · have g : ¬ ((u / 9223372036854775808 : Nat) : Int) = 1 := beq_eq_false_iff_ne.1 g
    rw [i64_wrap (by omega) (by omega)]
end Go.Gv.P
namespace Go.Gv.RI
open Go Go.Gv Go.Gv.D
set_option maxRecDepth 100000
theorem Moved_tot {a : List Int} {n : Nat} (ha : Ok3 a) (la : a.length ≤ 20000) (hn : n ≤ 10000) (h0 : w a ≠ 0) : Tot (fun fuel => ref3_Moved fuel a (n : Int)) (fun r => Ok3 r ∧ w r = w a * 2 ^ n) := by
  unfold ref3_Moved
  refine Tot.bindq (Ones_tot ha) fun r ⟨h1, h2, h3⟩ => ?_
  have hp : 0 < r.length := by
    rcases Nat.eq_zero_or_pos r.length with h | h
    · have : r = [] := List.length_eq_zero_iff.1 h
      subst this
      exact absurd (by rw [← h1]; rfl) h0
    · exact h
  refine Tot.if_ ?_ (Tot.if_ (decide_eq_false (by omega)) ?_)
  · rw [Bool.or_eq_false_iff]
    refine ⟨beq_eq_false_iff_ne.2 (by omega), decide_eq_false ?_⟩
    rw [i64_small (by omega) (by omega)]
    omega
  refine Tot.bind0 (a := List.replicate n false) (by unfold mkC; rw [if_pos ⟨by omega, by omega, by omega⟩, Int.toNat_natCast]) ?_
  refine Tot.bind0 (a := List.replicate n false ++ r) (by unfold app; rw [if_pos (by simp; omega)]) ?_
  refine Tot.bindq (Binary_tot (by simp; omega)) fun x ⟨k1, k2⟩ => Tot.ret ⟨k1, ?_⟩
  rw [k2, vbits_append, vbits_zeros, h1, List.length_replicate, Int.zero_add, Int.mul_comm]
end Go.Gv.RI
namespace Go.Gv.P
open Go Go.Gv Go.Gv.D Go.Gv.R
set_option maxRecDepth 100000

/-! ### words of bytes -/
def wLE : List UInt8 → Nat
  | [] => 0
  | b :: l => b.toNat + 256 * wLE l
theorem wLE_snoc : ∀ (l : List UInt8) (b : UInt8), wLE (l ++ [b]) = wLE l + 256 ^ l.length * b.toNat
  | [], b => by simp [wLE]
  | c :: l, b => by
    show c.toNat + 256 * wLE (l ++ [b]) = c.toNat + 256 * wLE l + 256 ^ (l.length + 1) * b.toNat
    rw [wLE_snoc l b, Nat.pow_succ, Nat.mul_add, ← Nat.mul_assoc, Nat.mul_comm (256 ^ l.length) 256]
    omega
theorem wLE_lt : ∀ (l : List UInt8), wLE l < 256 ^ l.length
  | [] => by decide
  | b :: l => by
    have := wLE_lt l
    have hb := byte_lt b
    show b.toNat + 256 * wLE l < 256 ^ (l.length + 1)
    rw [Nat.pow_succ]
    omega
theorem or64_add {x b k : Nat} (hb : b < 2 ^ k) (h : 2 ^ k * x + b < 18446744073709551616) : bwOr .u64 ((2 ^ k * x : Nat) : Int) (b : Int) = ((2 ^ k * x + b : Nat) : Int) ∧ bwOr .u64 (b : Int) ((2 ^ k * x : Nat) : Int) = ((2 ^ k * x + b : Nat) : Int) := by
  have e1 : (BitVec.ofInt 64 ((2 ^ k * x : Nat) : Int)).toNat = 2 ^ k * x := by simp only [BitVec.toNat_ofInt]; omega
  have e2 : (BitVec.ofInt 64 ((b : Nat) : Int)).toNat = b := by simp only [BitVec.toNat_ofInt]; omega
  constructor
  · unfold bwOr
    show IntKind.u64.wrap ((BitVec.ofInt 64 _ ||| BitVec.ofInt 64 _).toNat : Int) = _
    rw [BitVec.toNat_or, e1, e2, ← Nat.two_pow_add_eq_or_of_lt hb, u64_wrap]
    omega
  · unfold bwOr
    show IntKind.u64.wrap ((BitVec.ofInt 64 _ ||| BitVec.ofInt 64 _).toNat : Int) = _
    rw [BitVec.toNat_or, e1, e2, Nat.or_comm, ← Nat.two_pow_add_eq_or_of_lt hb, u64_wrap]
    omega
end Go.Gv.P

