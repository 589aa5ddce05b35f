import Derived.Test.YtkmcegicngjhbaaDoorL6
set_option linter.all false
namespace Go.Gv.R
open Go Go.Gv Go.Gv.D

def bits6 (n : Nat) : List Nat := [n / 32 % 2, n / 16 % 2, n / 8 % 2, n / 4 % 2, n / 2 % 2, n / 1 % 2]
theorem bits6_eq (n : Nat) : bits6 n = (List.range 6).map fun k => n / 2 ^ (5 - k) % 2 := rfl
def let6 (x : UInt8) : List Nat := (List.range 64).flatMap fun k => if (lt k).toNat == x.toNat then bits6 k else []
theorem let6_lt {n : Nat} (h : n < 64) : let6 (lt n) = bits6 n := by
  have : ((List.range 64).all fun n => let6 (lt n) == bits6 n) = true := by kernel_rfl
  exact eq_of_beq (List.all_eq_true.1 this n (List.mem_range.2 h))
theorem let6_eq : let6 61 = [] := by kernel_rfl
theorem let6_le (x : UInt8) : (let6 x).length ≤ 6 := by
  have h : ((List.range 256).all fun n => decide ((let6 (UInt8.ofNat n)).length ≤ 6)) = true := by kernel_rfl
  have := byte_all (p := fun n => decide ((let6 (UInt8.ofNat n)).length ≤ 6)) h x
  simpa only [UInt8.ofNat_toNat, decide_eq_true_eq] using this
theorem flat6_len (l : List UInt8) : (l.flatMap let6).length ≤ 6 * l.length := by
  induction l with
  | nil => simp
  | cons x l ih =>
    have := let6_le x
    rw [List.flatMap_cons, List.length_append, List.length_cons]; omega
theorem letters6_back : ∀ (p : List Nat), p.length % 6 = 0 → (∀ n ∈ p, n ≤ 1) → (letters6 p).flatMap let6 = p
  | [], _, _ => rfl
  | [_], h, _ | [_, _], h, _ | [_, _, _], h, _ | [_, _, _, _], h, _ | [_, _, _, _, _], h, _ => by simp at h
  | a :: b :: c :: d :: e :: f :: l, h, hb => by
    have h' : l.length % 6 = 0 := by simp only [List.length_cons] at h; omega
    have ha := hb a (by simp)
    have hb' := hb b (by simp)
    have hc := hb c (by simp)
    have hd := hb d (by simp)
    have he := hb e (by simp)
    have hf := hb f (by simp)
    have ih := letters6_back l h' fun n hn => hb n (by simp [hn])
    show (lt _ :: letters6 l).flatMap let6 = _
    rw [List.flatMap_cons, ih, let6_lt (by omega)]
    have h1 : bits6 (32 * a + 16 * b + 8 * c + 4 * d + 2 * e + f) = [a, b, c, d, e, f] := by
      simp only [bits6, List.cons.injEq, and_true]
      omega
    rw [h1]
    rfl
theorem flat_pad (l : List UInt8) : (pad4 l).flatMap let6 = l.flatMap let6 := by
  unfold pad4
  rw [List.flatMap_append]
  have : ∀ n, (List.replicate n (61 : UInt8)).flatMap let6 = [] := fun n => by
    induction n with
    | zero => rfl
    | succ n ih => rw [List.replicate_succ, List.flatMap_cons, ih, let6_eq]; rfl
  rw [this, List.append_nil]
theorem b64_bits (x : List UInt8) : (b64L x).flatMap let6 = pad6 (bitsN x) := by
  rw [← sixty_eq]
  unfold sixty
  rw [flat_pad, letters6_back _ (pad6_len _).1 (pad6_bit bit_le)]
/-- octet m of the bits of x -/
theorem bits_at : ∀ (x : List UInt8) (m k : Nat) (hm : m < x.length) (hk : k < 8) (h : 8 * m + k < (bitsN x).length), (bitsN x)[8 * m + k] = x[m].toNat / 2 ^ (7 - k) % 2
  | [], m, k, hm, _, _ => absurd hm (Nat.not_lt_zero _)
  | y :: l, 0, k, _, hk, h => by
    simp only [Nat.mul_zero, Nat.zero_add, bitsN, List.flatMap_cons, List.getElem_cons_zero]
    rw [List.getElem_append_left (by rw [bits8_len]; exact hk)]
    simp only [bits8_eq, List.getElem_map, List.getElem_range]
  | y :: l, m + 1, k, hm, hk, h => by
    have hm' : m < l.length := by simp only [List.length_cons] at hm; omega
    have := bits_at l m k hm' hk (by rw [bitsN_len]; omega)
    simp only [List.getElem_cons_succ]
    rw [← this]
    simp only [bitsN, List.flatMap_cons]
    rw [List.getElem_append_right (by rw [bits8_len]; omega)]
    congr 1
    rw [bits8_len]; omega
end Go.Gv.R
