import Derived.Test.YtkmcegicngjhbaaDoorL2
set_option linter.all false
namespace Go.Gv.R
open Go Go.Gv Go.Gv.D

/-! ### the reference's letters -/
def bits8 (x : UInt8) : List Nat := [x.toNat / 128 % 2, x.toNat / 64 % 2, x.toNat / 32 % 2, x.toNat / 16 % 2, x.toNat / 8 % 2, x.toNat / 4 % 2, x.toNat / 2 % 2, x.toNat / 1 % 2]
def bitsN (b : List UInt8) : List Nat := b.flatMap bits8
def ints (l : List Nat) : List Int := l.map fun (n : Nat) => (n : Int)
def letters6 : List Nat → List UInt8
  | a :: b :: c :: d :: e :: f :: l => lt (32 * a + 16 * b + 8 * c + 4 * d + 2 * e + f) :: letters6 l
  | _ => []
def pad6 (l : List Nat) : List Nat := l ++ List.replicate ((6 - l.length % 6) % 6) 0
def pad4 (l : List UInt8) : List UInt8 := l ++ List.replicate ((4 - l.length % 4) % 4) 61
def sixty (b : List UInt8) : List UInt8 := pad4 (letters6 (pad6 (bitsN b)))

theorem bits8_len (x : UInt8) : (bits8 x).length = 8 := rfl
theorem bitsN_len (b : List UInt8) : (bitsN b).length = 8 * b.length := by
  induction b with
  | nil => rfl
  | cons x b ih => simp [bitsN, bits8_len] at ih ⊢; omega
theorem bit_le {b : List UInt8} : ∀ n ∈ bitsN b, n ≤ 1 := fun n hn => by
  obtain ⟨x, _, h⟩ := List.mem_flatMap.1 hn
  simp only [bits8, List.mem_cons, List.not_mem_nil, or_false] at h
  omega
theorem letters6_app : ∀ (p : List Nat) {r : List Nat}, p.length % 6 = 0 → letters6 (p ++ r) = letters6 p ++ letters6 r
  | [], r, _ => rfl
  | [_], _, h | [_, _], _, h | [_, _, _], _, h | [_, _, _, _], _, h | [_, _, _, _, _], _, h => by simp at h
  | a :: b :: c :: d :: e :: f :: l, r, h => by
    have h' : l.length % 6 = 0 := by simp only [List.length_cons] at h; omega
    show lt _ :: letters6 (l ++ r) = lt _ :: (letters6 l ++ letters6 r)
    rw [letters6_app l h']
theorem letters6_len : ∀ (p : List Nat), (letters6 p).length = p.length / 6
  | [] => rfl
  | [_] | [_, _] | [_, _, _] | [_, _, _, _] | [_, _, _, _, _] => by simp [letters6]
  | a :: b :: c :: d :: e :: f :: l => by
    show (letters6 l).length + 1 = (l.length + 6) / 6
    rw [letters6_len l]; omega
theorem pad6_app {p r : List Nat} (h : p.length % 6 = 0) : pad6 (p ++ r) = p ++ pad6 r := by
  unfold pad6
  rw [List.append_assoc, List.length_append, show (p.length + r.length) % 6 = r.length % 6 by omega]
theorem pad4_app {p r : List UInt8} (h : p.length % 4 = 0) : pad4 (p ++ r) = p ++ pad4 r := by
  unfold pad4
  rw [List.append_assoc, List.length_append, show (p.length + r.length) % 4 = r.length % 4 by omega]
theorem chunks_cons (x y z : UInt8) (b : List UInt8) : chunks (x :: y :: z :: b) = [x, y, z] :: chunks b := by
  unfold chunks
  rw [show ((x :: y :: z :: b).length + 2) / 3 = (b.length + 2) / 3 + 1 by simp only [List.length_cons]; omega, List.range_succ_eq_map, List.map_cons, List.map_map]
  congr 1
theorem quad_full (x y z : UInt8) : quad [x, y, z] = letters6 (bits8 x ++ bits8 y ++ bits8 z) := by
  have hx := byte_lt x
  have hy := byte_lt y
  have hz := byte_lt z
  simp only [quad, bits8, List.range, List.range.loop, List.map_cons, List.map_nil, List.cons_append, List.nil_append, letters6, num3, List.length_cons, List.length_nil, List.getD_cons_zero, List.getD_cons_succ]
  simp only [show (0 ≤ 0 + 1 + 1 + 1) = True by simp, show (1 ≤ 0 + 1 + 1 + 1) = True by simp, show (2 ≤ 0 + 1 + 1 + 1) = True by simp, show (3 ≤ 0 + 1 + 1 + 1) = True by simp, if_true]
  congr 1
  · congr 1; omega
  congr 1
  · congr 1; omega
  congr 1
  · congr 1; omega
  congr 1
  · congr 1; omega

theorem sixty_eq : ∀ b : List UInt8, sixty b = b64L b
  | [] => rfl
  | [x] => by
    have hx := byte_lt x
    have hc : chunks [x] = [[x]] := by simp [chunks, chunk, List.range, List.range.loop]
    unfold b64L
    rw [hc]
    simp only [sixty, bitsN, bits8, quad, List.range, List.range.loop, List.map_cons, List.map_nil, List.flatMap_cons, List.flatMap_nil, List.append_nil, pad6, List.length_cons, List.length_nil, num3, List.getD_cons_zero, List.getD_cons_succ, List.getD_nil]
    try simp only [show (6 - (0 + 1 + 1 + 1 + 1 + 1 + 1 + 1 + 1) % 6) % 6 = 4 from rfl, List.replicate, List.cons_append, List.nil_append, letters6, pad4, List.length_cons, List.length_nil]
    try simp only [show (4 - (0 + 1 + 1) % 4) % 4 = 2 from rfl, List.replicate, List.cons_append, List.nil_append]
    try simp only [show (0 ≤ 0 + 1) = True by simp, show (1 ≤ 0 + 1) = True by simp, show (2 ≤ 0 + 1) = False by simp, show (3 ≤ 0 + 1) = False by simp, if_true, if_false, UInt8.toNat_zero]
    congr 1
    · congr 1; omega
    congr 1
    · congr 1; omega
  | [x, y] => by
    have hx := byte_lt x
    have hy := byte_lt y
    have hc : chunks [x, y] = [[x, y]] := by simp [chunks, chunk, List.range, List.range.loop]
    unfold b64L
    rw [hc]
    simp only [sixty, bitsN, bits8, quad, List.range, List.range.loop, List.map_cons, List.map_nil, List.flatMap_cons, List.flatMap_nil, List.append_nil, pad6, List.length_cons, List.length_nil, num3, List.getD_cons_zero, List.getD_cons_succ, List.getD_nil, List.length_append, List.cons_append, List.nil_append]
    try simp only [show (6 - (0 + 1 + 1 + 1 + 1 + 1 + 1 + 1 + 1 + 1 + 1 + 1 + 1 + 1 + 1 + 1 + 1) % 6) % 6 = 2 from rfl, List.replicate, List.cons_append, List.nil_append, letters6, pad4, List.length_cons, List.length_nil]
    try simp only [show (4 - (0 + 1 + 1 + 1) % 4) % 4 = 1 from rfl, List.replicate, List.cons_append, List.nil_append]
    try simp only [show (0 ≤ 0 + 1 + 1) = True by simp, show (1 ≤ 0 + 1 + 1) = True by simp, show (2 ≤ 0 + 1 + 1) = True by simp, show (3 ≤ 0 + 1 + 1) = False by simp, if_true, if_false, UInt8.toNat_zero]
    congr 1
    · congr 1; omega
    congr 1
    · congr 1; omega
    congr 1
    · congr 1; omega
  | x :: y :: z :: b => by
    unfold b64L
    rw [chunks_cons, List.flatMap_cons, quad_full]
    have : bitsN (x :: y :: z :: b) = (bits8 x ++ bits8 y ++ bits8 z) ++ bitsN b := by simp [bitsN]
    unfold sixty
    rw [this, pad6_app (by simp [bits8_len]), letters6_app _ (by simp [bits8_len]), pad4_app (by simp [letters6_len, bits8_len])]
    congr 1
    exact sixty_eq b
end Go.Gv.R
