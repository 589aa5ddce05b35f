import Derived.Test.YtkmcegicngjhbaaDoorGt
import Derived.Test.YtkmcegicngjhbaaDoorD
set_option linter.all false
namespace Go.Gv.R
open Go Go.Gv Go.Gv.D

theorem i64_small {x : Int} (h : -4611686018427387904 ≤ x) (h' : x ≤ 4611686018427387904) : IntKind.i64.wrap x = x := i64_wrap (by omega) (by omega)
theorem u8_small {x : Int} (h : 0 ≤ x) (h' : x < 256) : IntKind.u8.wrap x = x := by rw [u8_wrap]; omega
theorem idx_nat {α : Type} {xs : List α} {i : Nat} (h : i < xs.length) : idx xs (i : Int) = some xs[i] := idx_ok (by omega) (by omega)
theorem sidx_nat {s : ByteArray} {i : Nat} (h : i < (bytesOf s).length) : sidx s (i : Int) = some ((bytesOf s)[i].toNat : Int) := by
  unfold sidx
  rw [if_pos (by omega)]
  rw [show (s.data.toList)[((i : Nat) : Int).toNat]? = (bytesOf s)[i]? by rw [Int.toNat_natCast]; rfl, List.getElem?_eq_getElem h]
  rfl
theorem size_bytes (s : ByteArray) : s.size = (bytesOf s).length := by simp [bytesOf]
theorem bytes_str (l : List UInt8) : bytesOf (strOf l) = l := by simp [bytesOf, strOf]
theorem str_bytes (s : ByteArray) : strOf (bytesOf s) = s := by cases s; simp [bytesOf, strOf]
theorem toList_bytes (s : ByteArray) : s.toList = bytesOf s := by
  have h : ∀ (n i : Nat) (acc : List UInt8), s.size - i = n → i ≤ s.size → ByteArray.toList.loop s i acc = acc.reverse ++ (bytesOf s).drop i := by
    intro n
    induction n with
    | zero =>
      intro i acc h1 h2
      unfold ByteArray.toList.loop
      rw [if_neg (by omega), List.drop_of_length_le (by rw [← size_bytes]; omega), List.append_nil]
    | succ n ih =>
      intro i acc h1 h2
      unfold ByteArray.toList.loop
      rw [if_pos (by omega), ih (i + 1) _ (by omega) (by omega)]
      have hl : i < (bytesOf s).length := by rw [← size_bytes]; omega
      rw [List.drop_eq_getElem_cons hl]
      have : s.get! i = (bytesOf s)[i] := by
        have hi : i < s.data.size := by rw [size_bytes] at h2; simpa [bytesOf] using hl
        show s.data[i]! = _
        rw [getElem!_pos s.data i hi]
        simp [bytesOf]
      rw [this]
      simp
  have := h s.size 0 [] (by omega) (by omega)
  simpa [ByteArray.toList] using this
theorem str_eq (a b : ByteArray) : (a.toList == b.toList) = decide (a = b) := by
  rw [toList_bytes, toList_bytes]
  by_cases h : a = b
  · subst h; simp
  · rw [decide_eq_false h]
    exact beq_eq_false_iff_ne.2 fun e => h (by rw [← str_bytes a, e, str_bytes])
theorem byte_lt (x : UInt8) : x.toNat < 256 := x.toNat_lt
theorem byte_all {p : Nat → Bool} (h : (List.range 256).all p = true) (x : UInt8) : p x.toNat = true :=
  List.all_eq_true.1 h _ (List.mem_range.2 (byte_lt x))
theorem u8_ok {n : Nat} (h : n < 256) : u8 (n : Int) = some (UInt8.ofNat n) := by
  unfold u8
  rw [if_pos (by omega), Int.toNat_natCast]
theorem u8_byte (x : UInt8) : u8 (x.toNat : Int) = some x := by rw [u8_ok (byte_lt x), UInt8.ofNat_toNat]
theorem cat_ok {s t : ByteArray} (h : s.size + t.size ≤ 9223372036854775807) : cat s t = some (s ++ t) := by unfold cat; rw [if_pos h]
theorem size_str (l : List UInt8) : (strOf l).size = l.length := by rw [size_bytes, bytes_str]
theorem cat_str {l m : List UInt8} (h : l.length + m.length ≤ 9223372036854775807) : cat (strOf l) (strOf m) = some (strOf (l ++ m)) := by
  rw [cat_ok (by rw [size_str, size_str]; exact h)]
  congr 1
theorem ssub_str {l : List UInt8} {i j : Nat} (h : i ≤ j) (h' : j ≤ l.length) : ssub (strOf l) (i : Int) (j : Int) = some (strOf ((l.take j).drop i)) := by
  unfold ssub
  rw [if_pos ⟨by omega, by omega, by rw [size_str]; omega⟩]
  congr 1
  apply ByteArray.ext
  simp [strOf, List.drop_take]

/-! ### digits -/
def hexT : List UInt8 := [48, 49, 50, 51, 52, 53, 54, 55, 56, 57, 97, 98, 99, 100, 101, 102]
def hx (n : Nat) : UInt8 := hexT.getD n 0
def hexL (b : List UInt8) : List UInt8 := b.flatMap fun x => [hx (x.toNat / 16), hx (x.toNat % 16)]
theorem hexL_len (b : List UInt8) : (hexL b).length = 2 * b.length := by
  induction b with
  | nil => rfl
  | cons x b ih => simp [hexL] at ih ⊢; omega
theorem hexL_snoc (b : List UInt8) (x : UInt8) : hexL (b ++ [x]) = hexL b ++ [hx (x.toNat / 16), hx (x.toNat % 16)] := by simp [hexL]
theorem hex_hi (x : UInt8) : sidx (strOf [48, 49, 50, 51, 52, 53, 54, 55, 56, 57, 97, 98, 99, 100, 101, 102]) ((x.toNat : Int).fdiv (2 ^ 4)) = some ((hx (x.toNat / 16)).toNat : Int) := by
  have := byte_all (p := fun n => sidx (strOf hexT) ((n : Int).fdiv (2 ^ 4)) == some ((hx (n / 16)).toNat : Int)) (by kernel_rfl) x
  exact eq_of_beq this
theorem hex_lo (x : UInt8) : sidx (strOf [48, 49, 50, 51, 52, 53, 54, 55, 56, 57, 97, 98, 99, 100, 101, 102]) (bwAnd .u8 (x.toNat : Int) 15) = some ((hx (x.toNat % 16)).toNat : Int) := by
  have := byte_all (p := fun n => sidx (strOf hexT) (bwAnd .u8 (n : Int) 15) == some ((hx (n % 16)).toNat : Int)) (by kernel_rfl) x
  exact eq_of_beq this

theorem take_snoc {α : Type} {l : List α} {i : Nat} (h : i < l.length) : l.take (i + 1) = l.take i ++ [l[i]] := by
  rw [List.take_add_one, List.getElem?_eq_getElem h]; rfl

end Go.Gv.R
namespace Go.Gv.R
open Go Go.Gv Go.Gv.D

theorem ofInt_nat (n m : Nat) : BitVec.ofInt n (m : Int) = BitVec.ofNat n m := by simp
theorem and_mod (m k : Nat) (h : m < 4611686018427387904) (hk : k ≤ 32) : bwAnd .i64 (m : Int) ((2 ^ k - 1 : Nat) : Int) = ((m % 2 ^ k : Nat) : Int) := by
  unfold bwAnd
  rw [show IntKind.i64.bits = 64 from rfl, ofInt_nat, ofInt_nat, BitVec.toNat_and, BitVec.toNat_ofNat, BitVec.toNat_ofNat]
  have hk2 : 2 ^ k ≤ 2 ^ 32 := Nat.pow_le_pow_right (by decide) hk
  rw [Nat.mod_eq_of_lt (a := m) (by omega), Nat.mod_eq_of_lt (a := 2 ^ k - 1) (by omega), Nat.and_two_pow_sub_one_eq_mod]
  have : m % 2 ^ k ≤ m := Nat.mod_le ..
  exact i64_small (by omega) (by omega)
theorem or_add (a b k : Nat) (hb : b < 2 ^ k) (h : 2 ^ k * a + b < 4611686018427387904) : bwOr .i64 ((2 ^ k * a : Nat) : Int) (b : Int) = ((2 ^ k * a + b : Nat) : Int) := by
  unfold bwOr
  rw [show IntKind.i64.bits = 64 from rfl, ofInt_nat, ofInt_nat, BitVec.toNat_or, BitVec.toNat_ofNat, BitVec.toNat_ofNat]
  rw [Nat.mod_eq_of_lt (by omega), Nat.mod_eq_of_lt (by omega), ← Nat.two_pow_add_eq_or_of_lt hb]
  exact i64_small (by omega) (by omega)
theorem shr_div (m k : Nat) (h : k ≤ 64) : shrI .i64 (m : Int) (k : Int) = ((m / 2 ^ k : Nat) : Int) := by
  unfold shrI
  rw [Int.toNat_natCast, show min k IntKind.i64.bits = k by show min k 64 = k; omega, Int.fdiv_eq_ediv_of_nonneg _ (Int.le_of_lt (Int.pow_pos (by decide)))]
  simp

/-! ### four letters for three bytes -/
def letT : List UInt8 := [65, 66, 67, 68, 69, 70, 71, 72, 73, 74, 75, 76, 77, 78, 79, 80, 81, 82, 83, 84, 85, 86, 87, 88, 89, 90, 97, 98, 99, 100, 101, 102, 103, 104, 105, 106, 107, 108, 109, 110, 111, 112, 113, 114, 115, 116, 117, 118, 119, 120, 121, 122, 48, 49, 50, 51, 52, 53, 54, 55, 56, 57, 43, 47]
def lt (n : Nat) : UInt8 := letT.getD n 0
def num3 (y : List UInt8) : Nat := (y.getD 0 0).toNat * 65536 + (y.getD 1 0).toNat * 256 + (y.getD 2 0).toNat
def quad (y : List UInt8) : List UInt8 := (List.range 4).map fun k => if k ≤ y.length then lt (num3 y / 2 ^ (18 - 6 * k) % 64) else 61
theorem num3_lt (y : List UInt8) : num3 y < 16777216 := by
  have a := byte_lt (y.getD 0 0)
  have b := byte_lt (y.getD 1 0)
  have c := byte_lt (y.getD 2 0)
  unfold num3
  omega
theorem sidx_let {i : Nat} (h : i < 64) : sidx (strOf [65, 66, 67, 68, 69, 70, 71, 72, 73, 74, 75, 76, 77, 78, 79, 80, 81, 82, 83, 84, 85, 86, 87, 88, 89, 90, 97, 98, 99, 100, 101, 102, 103, 104, 105, 106, 107, 108, 109, 110, 111, 112, 113, 114, 115, 116, 117, 118, 119, 120, 121, 122, 48, 49, 50, 51, 52, 53, 54, 55, 56, 57, 43, 47]) (i : Int) = some ((lt i).toNat : Int) := by
  have h' : i < (bytesOf (strOf letT)).length := by rw [bytes_str]; exact h
  have := sidx_nat (s := strOf letT) (i := i) h'
  show sidx (strOf letT) (i : Int) = _
  rw [this]
  have hl : i < letT.length := h
  have e : lt i = letT[i] := by unfold lt; simp [hl]
  rw [e]
  simp only [bytes_str]

theorem quad_take (y : List UInt8) : ∀ k, k ≤ 4 → ((List.range k).map fun k => if k ≤ y.length then lt (num3 y / 2 ^ (18 - 6 * k) % 64) else 61).length = k := fun k _ => by simp

def b64L (b : List UInt8) : List UInt8 := (chunks b).flatMap quad

end Go.Gv.R
namespace Go.Gv.R
open Go Go.Gv Go.Gv.D

/-! ### the reference's letters -/
def bits8 (x : UInt8) : List Nat := [x.toNat / 128 % 2, x.toNat / 64 % 2, x.toNat / 32 % 2, x.toNat / 16 % 2, x.toNat / 8 % 2, x.toNat / 4 % 2, x.toNat / 2 % 2, x.toNat / 1 % 2]
def bitsN (b : List UInt8) : List Nat := b.flatMap bits8
def ints (l : List Nat) : List Int := l.map fun (n : Nat) => (n : Int)
def letters6 : List Nat → List UInt8
  | a :: b :: c :: d :: e :: f :: l => lt (32 * a + 16 * b + 8 * c + 4 * d + 2 * e + f) :: letters6 l
  | _ => []
def pad6 (l : List Nat) : List Nat := l ++ List.replicate ((6 - l.length % 6) % 6) 0
def pad4 (l : List UInt8) : List UInt8 := l ++ List.replicate ((4 - l.length % 4) % 4) 61
def sixty (b : List UInt8) : List UInt8 := pad4 (letters6 (pad6 (bitsN b)))

theorem bits8_len (x : UInt8) : (bits8 x).length = 8 := rfl
theorem bitsN_len (b : List UInt8) : (bitsN b).length = 8 * b.length := by
  induction b with
  | nil => rfl
  | cons x b ih => simp [bitsN, bits8_len] at ih ⊢; omega
theorem bit_le {b : List UInt8} : ∀ n ∈ bitsN b, n ≤ 1 := fun n hn => by
  obtain ⟨x, _, h⟩ := List.mem_flatMap.1 hn
  simp only [bits8, List.mem_cons, List.not_mem_nil, or_false] at h
  omega
theorem letters6_app : ∀ (p : List Nat) {r : List Nat}, p.length % 6 = 0 → letters6 (p ++ r) = letters6 p ++ letters6 r
  | [], r, _ => rfl
  | [_], _, h | [_, _], _, h | [_, _, _], _, h | [_, _, _, _], _, h | [_, _, _, _, _], _, h => by simp at h
  | a :: b :: c :: d :: e :: f :: l, r, h => by
    have h' : l.length % 6 = 0 := by simp only [List.length_cons] at h; omega
    show lt _ :: letters6 (l ++ r) = lt _ :: (letters6 l ++ letters6 r)
    rw [letters6_app l h']
theorem letters6_len : ∀ (p : List Nat), (letters6 p).length = p.length / 6
  | [] => rfl
  | [_] | [_, _] | [_, _, _] | [_, _, _, _] | [_, _, _, _, _] => by simp [letters6]
  | a :: b :: c :: d :: e :: f :: l => by
    show (letters6 l).length + 1 = (l.length + 6) / 6
    rw [letters6_len l]; omega
theorem pad6_app {p r : List Nat} (h : p.length % 6 = 0) : pad6 (p ++ r) = p ++ pad6 r := by
  unfold pad6
  rw [List.append_assoc, List.length_append, show (p.length + r.length) % 6 = r.length % 6 by omega]
theorem pad4_app {p r : List UInt8} (h : p.length % 4 = 0) : pad4 (p ++ r) = p ++ pad4 r := by
  unfold pad4
  rw [List.append_assoc, List.length_append, show (p.length + r.length) % 4 = r.length % 4 by omega]
theorem chunks_cons (x y z : UInt8) (b : List UInt8) : chunks (x :: y :: z :: b) = [x, y, z] :: chunks b := by
  unfold chunks
  rw [show ((x :: y :: z :: b).length + 2) / 3 = (b.length + 2) / 3 + 1 by simp only [List.length_cons]; omega, List.range_succ_eq_map, List.map_cons, List.map_map]
  congr 1
theorem quad_full (x y z : UInt8) : quad [x, y, z] = letters6 (bits8 x ++ bits8 y ++ bits8 z) := by
  have hx := byte_lt x
  have hy := byte_lt y
  have hz := byte_lt z
  simp only [quad, bits8, List.range, List.range.loop, List.map_cons, List.map_nil, List.cons_append, List.nil_append, letters6, num3, List.length_cons, List.length_nil, List.getD_cons_zero, List.getD_cons_succ]
  simp only [show (0 ≤ 0 + 1 + 1 + 1) = True by simp, show (1 ≤ 0 + 1 + 1 + 1) = True by simp, show (2 ≤ 0 + 1 + 1 + 1) = True by simp, show (3 ≤ 0 + 1 + 1 + 1) = True by simp, if_true]
  congr 1
  · congr 1; omega
  congr 1
  · congr 1; omega
  congr 1
  · congr 1; omega
  congr 1
  · congr 1; omega

theorem sixty_eq : ∀ b : List UInt8, sixty b = b64L b
  | [] => rfl
  | [x] => by
    have hx := byte_lt x
    have hc : chunks [x] = [[x]] := by simp [chunks, chunk, List.range, List.range.loop]
    unfold b64L
    rw [hc]
    simp only [sixty, bitsN, bits8, quad, List.range, List.range.loop, List.map_cons, List.map_nil, List.flatMap_cons, List.flatMap_nil, List.append_nil, pad6, List.length_cons, List.length_nil, num3, List.getD_cons_zero, List.getD_cons_succ, List.getD_nil]
    try simp only [show (6 - (0 + 1 + 1 + 1 + 1 + 1 + 1 + 1 + 1) % 6) % 6 = 4 from rfl, List.replicate, List.cons_append, List.nil_append, letters6, pad4, List.length_cons, List.length_nil]
    try simp only [show (4 - (0 + 1 + 1) % 4) % 4 = 2 from rfl, List.replicate, List.cons_append, List.nil_append]
    try simp only [show (0 ≤ 0 + 1) = True by simp, show (1 ≤ 0 + 1) = True by simp, show (2 ≤ 0 + 1) = False by simp, show (3 ≤ 0 + 1) = False by simp, if_true, if_false, UInt8.toNat_zero]
    congr 1
    · congr 1; omega
    congr 1
    · congr 1; omega
  | [x, y] => by
    have hx := byte_lt x
    have hy := byte_lt y
    have hc : chunks [x, y] = [[x, y]] := by simp [chunks, chunk, List.range, List.range.loop]
    unfold b64L
    rw [hc]
    simp only [sixty, bitsN, bits8, quad, List.range, List.range.loop, List.map_cons, List.map_nil, List.flatMap_cons, List.flatMap_nil, List.append_nil, pad6, List.length_cons, List.length_nil, num3, List.getD_cons_zero, List.getD_cons_succ, List.getD_nil, List.length_append, List.cons_append, List.nil_append]
    try simp only [show (6 - (0 + 1 + 1 + 1 + 1 + 1 + 1 + 1 + 1 + 1 + 1 + 1 + 1 + 1 + 1 + 1 + 1) % 6) % 6 = 2 from rfl, List.replicate, List.cons_append, List.nil_append, letters6, pad4, List.length_cons, List.length_nil]
    try simp only [show (4 - (0 + 1 + 1 + 1) % 4) % 4 = 1 from rfl, List.replicate, List.cons_append, List.nil_append]
    try simp only [show (0 ≤ 0 + 1 + 1) = True by simp, show (1 ≤ 0 + 1 + 1) = True by simp, show (2 ≤ 0 + 1 + 1) = True by simp, show (3 ≤ 0 + 1 + 1) = False by simp, if_true, if_false, UInt8.toNat_zero]
    congr 1
    · congr 1; omega
    congr 1
    · congr 1; omega
    congr 1
    · congr 1; omega
  | x :: y :: z :: b => by
    unfold b64L
    rw [chunks_cons, List.flatMap_cons, quad_full]
    have : bitsN (x :: y :: z :: b) = (bits8 x ++ bits8 y ++ bits8 z) ++ bitsN b := by simp [bitsN]
    unfold sixty
    rw [this, pad6_app (by simp [bits8_len]), letters6_app _ (by simp [bits8_len]), pad4_app (by simp [letters6_len, bits8_len])]
    congr 1
    exact sixty_eq b
end Go.Gv.R
namespace Go.Gv.R
open Go Go.Gv Go.Gv.D

theorem ints_len (l : List Nat) : (ints l).length = l.length := by simp [ints]
theorem ints_app (l m : List Nat) : ints (l ++ m) = ints l ++ ints m := by simp [ints]
theorem ints_get {l : List Nat} {i : Nat} (h : i < l.length) : idx (ints l) (i : Int) = some ((l[i] : Nat) : Int) := by
  rw [idx_nat (by rw [ints_len]; exact h)]
  simp [ints]
theorem bit_at (m k : Nat) (hm : m < 256) (hk : k ≤ 8) : bwAnd .i64 (shrI .i64 (m : Int) (k : Int)) 1 = ((m / 2 ^ k % 2 : Nat) : Int) := by
  have hd : m / 2 ^ k ≤ m := Nat.div_le_self ..
  rw [shr_div _ _ (by omega), show (1 : Int) = ((2 ^ 1 - 1 : Nat) : Int) from rfl, and_mod _ 1 (by omega) (by decide)]
theorem bits8_eq (x : UInt8) : bits8 x = (List.range 8).map fun k => x.toNat / 2 ^ (7 - k) % 2 := rfl
theorem take6 {l : List Nat} {i : Nat} (h : 6 * i + 6 ≤ l.length) : letters6 (l.take (6 * (i + 1))) = letters6 (l.take (6 * i)) ++ [lt (32 * l[6 * i] + 16 * l[6 * i + 1] + 8 * l[6 * i + 2] + 4 * l[6 * i + 3] + 2 * l[6 * i + 4] + l[6 * i + 5])] := by
  have e : l.take (6 * (i + 1)) = l.take (6 * i) ++ [l[6 * i], l[6 * i + 1], l[6 * i + 2], l[6 * i + 3], l[6 * i + 4], l[6 * i + 5]] := by
    rw [show 6 * (i + 1) = 6 * i + 1 + 1 + 1 + 1 + 1 + 1 by omega, take_snoc (by omega), take_snoc (by omega), take_snoc (by omega), take_snoc (by omega), take_snoc (by omega), take_snoc (by omega)]
    simp only [List.append_assoc, List.cons_append, List.nil_append]
  rw [e, letters6_app _ (by simp; omega)]
  rfl
theorem pad6_len (l : List Nat) : (pad6 l).length % 6 = 0 ∧ l.length ≤ (pad6 l).length ∧ (pad6 l).length < l.length + 6 := by
  simp [pad6]; omega
theorem pad6_bit {l : List Nat} (h : ∀ n ∈ l, n ≤ 1) : ∀ n ∈ pad6 l, n ≤ 1 := fun n hn => by
  rcases List.mem_append.1 hn with h' | h'
  · exact h n h'
  · have := (List.mem_replicate.1 h').2; omega

end Go.Gv.R
namespace Go.Gv.R
open Go Go.Gv Go.Gv.D

/-! ### digits are read -/
def hv (x : UInt8) : Int := nIdxB [48, 49, 50, 51, 52, 53, 54, 55, 56, 57, 97, 98, 99, 100, 101, 102] (x.toNat : Int)
def hvAll : Bool := (List.range 256).all fun n => decide (-1 ≤ hv (UInt8.ofNat n)) && decide (hv (UInt8.ofNat n) < 16) && ((List.range 16).foldl (fun (a : Int) k => if (((hexT.getD k 0).toNat : Int)) == ((UInt8.ofNat n).toNat : Int) then (k : Int) else a) (-1) == hv (UInt8.ofNat n))
theorem hv_all : hvAll = true := by kernel_rfl
theorem hv_at (x : UInt8) : -1 ≤ hv x ∧ hv x < 16 ∧ (List.range 16).foldl (fun (a : Int) k => if (((hexT.getD k 0).toNat : Int)) == (x.toNat : Int) then (k : Int) else a) (-1) = hv x := by
  have := byte_all (p := fun n => decide (-1 ≤ hv (UInt8.ofNat n)) && decide (hv (UInt8.ofNat n) < 16) && ((List.range 16).foldl (fun (a : Int) k => if (((hexT.getD k 0).toNat : Int)) == ((UInt8.ofNat n).toNat : Int) then (k : Int) else a) (-1) == hv (UInt8.ofNat n))) hv_all x
  simp only [UInt8.ofNat_toNat, Bool.and_eq_true, decide_eq_true_eq, beq_iff_eq] at this
  exact ⟨this.1.1, this.1.2, by simpa using this.2⟩
def hn (x : UInt8) : Nat := (hv x).toNat
theorem hn_eq {x : UInt8} (h : 0 ≤ hv x) : hv x = (hn x : Int) := by unfold hn; omega
theorem hn_lt (x : UInt8) : hn x < 16 := by have := hv_at x; unfold hn; omega
def unhex : List UInt8 → List UInt8
  | x :: y :: l => UInt8.ofNat (16 * hn x + hn y) :: unhex l
  | _ => []
theorem unhex_app : ∀ {p : List UInt8}, p.length % 2 = 0 → ∀ x y, unhex (p ++ [x] ++ [y]) = unhex p ++ [UInt8.ofNat (16 * hn x + hn y)]
  | [], _, _, _ => rfl
  | [_], h, _, _ => by simp at h
  | a :: b :: l, h, x, y => by
    have h' : l.length % 2 = 0 := by simp only [List.length_cons] at h; omega
    show _ :: unhex (l ++ [x] ++ [y]) = _ :: (unhex l ++ _)
    rw [unhex_app h']
theorem unhex_len : ∀ (p : List UInt8), (unhex p).length = p.length / 2
  | [] => rfl
  | [_] => by simp [unhex]
  | a :: b :: l => by
    show (unhex l).length + 1 = (l.length + 2) / 2
    rw [unhex_len l]; omega
def HexR (l : List UInt8) (r : List UInt8 × Int × Int) : Prop :=
  (∃ i, ∃ h : i < l.length, hv l[i] < 0 ∧ (∀ k (hk : k < i), 0 ≤ hv l[k]) ∧ r = ([], (1, (i : Int)))) ∨ ((∀ x ∈ l, 0 ≤ hv x) ∧ r = (unhex l, (0, 0)))
/-- what has been written of the first i letters: the last half byte counts c -/
def Half (c : Nat) (l : List UInt8) (i : Nat) (out : List UInt8) : Prop :=
  (∃ m, i = 2 * m ∧ out = unhex (l.take (2 * m))) ∨ ∃ m, ∃ h : 2 * m < l.length, i = 2 * m + 1 ∧ out = unhex (l.take (2 * m)) ++ [UInt8.ofNat (c * hn l[2 * m])]

theorem set_mid {α : Type} (p : List α) (x y : α) (q : List α) {m : Nat} (h : m = p.length) : (p ++ x :: q).set m y = p ++ y :: q := by
  subst h
  simp
theorem get_mid {α : Type} (p : List α) (x : α) (q : List α) {m : Nat} (h : m = p.length) : idx (p ++ x :: q) (m : Int) = some x := by
  subst h
  rw [idx_nat (by simp)]
  simp
theorem upd_mid {α : Type} (p : List α) (x y : α) (q : List α) {m : Nat} (h : m = p.length) : upd (p ++ x :: q) (m : Int) y = some (p ++ y :: q) := by
  unfold upd
  rw [if_pos ⟨by omega, by simp; omega⟩, Int.toNat_natCast, set_mid p x y q h]
def orAll : Bool := (List.range 256).all fun n => bwOr .u8 0 (IntKind.u8.wrap ((n : Nat) : Int)) == ((n : Nat) : Int)
theorem or_hi (n : Nat) (h : n < 16) : bwOr .u8 (IntKind.u8.wrap (0 * 2 ^ 4)) (IntKind.u8.wrap (n : Int)) = (n : Int) := by
  have : ((List.range 16).all fun n => bwOr .u8 (IntKind.u8.wrap (0 * 2 ^ 4)) (IntKind.u8.wrap ((n : Nat) : Int)) == ((n : Nat) : Int)) = true := by kernel_rfl
  exact eq_of_beq (List.all_eq_true.1 this n (List.mem_range.2 h))
theorem or_lo (a n : Nat) (h : a < 16) (h' : n < 16) : bwOr .u8 (IntKind.u8.wrap ((a : Int) * 2 ^ 4)) (IntKind.u8.wrap (n : Int)) = ((16 * a + n : Nat) : Int) := by
  have : ((List.range 16).all fun a => (List.range 16).all fun n => bwOr .u8 (IntKind.u8.wrap (((a : Nat) : Int) * 2 ^ 4)) (IntKind.u8.wrap ((n : Nat) : Int)) == ((16 * a + n : Nat) : Int)) = true := by kernel_rfl
  exact eq_of_beq (List.all_eq_true.1 (List.all_eq_true.1 this a (List.mem_range.2 h)) n (List.mem_range.2 h'))

/-! ### the law's own way -/
theorem hexfold (x : UInt8) : ∀ k, k ≤ 16 → (List.range (k + 1)).foldl (fun (a : Int) k => if (((hexT.getD k 0).toNat : Int)) == (x.toNat : Int) then (k : Int) else a) (-1) = if (((hexT.getD k 0).toNat : Int)) == (x.toNat : Int) then (k : Int) else (List.range k).foldl (fun (a : Int) k => if (((hexT.getD k 0).toNat : Int)) == (x.toNat : Int) then (k : Int) else a) (-1) := fun k _ => by
  rw [List.range_succ, List.foldl_append]
  rfl
theorem sidx_hex {k : Nat} (h : k < 16) : sidx (strOf [48, 49, 50, 51, 52, 53, 54, 55, 56, 57, 97, 98, 99, 100, 101, 102]) (k : Int) = some ((hexT.getD k 0).toNat : Int) := by
  have : ((List.range 16).all fun k => sidx (strOf hexT) ((k : Nat) : Int) == some ((hexT.getD k 0).toNat : Int)) = true := by kernel_rfl
  exact eq_of_beq (List.all_eq_true.1 this k (List.mem_range.2 h))
theorem ref_hex {s_1 : ByteArray} (hs : s_1.size ≤ 4000) (he : s_1.size % 2 = 0) : Tot (fun fuel => (loopN (fun (s378 : ((List UInt8) × Int × (Int × Int))) => (Option.bind (if (decide (s378.2.1 < ((ByteArray.size s_1 : Nat) : Int))) then (some ((s378.2.2.1 == 0))) else (some (false))) fun (j401 : Bool) => (if j401 then (Option.bind (loopN (fun (s416 : (Int × Int)) => (if (decide (s416.2 < 16)) then (Option.bind (sidx (strOf [48, 49, 50, 51, 52, 53, 54, 55, 56, 57, 97, 98, 99, 100, 101, 102]) s416.2) fun x429 => (Option.bind (sidx s_1 s378.2.1) fun x431 => (Option.bind (if (x429 == x431) then (some (s416.2)) else (some (s416.1))) fun (j433 : Int) => (some (.inl (j433, (IntKind.i64.wrap (s416.2 + 1)))))))) else (some (.inr (s416.1))))) fuel ((-1), 0)) fun (j414 : Int) => (Option.bind (if (decide (j414 < 0)) then (Option.bind (ref4_At fuel 1 s378.2.1) fun r473 => (some ((s378.1, (r473.1, r473.2))))) else (if (((s378.2.1).tmod 2) == 0) then (Option.bind (u8 (IntKind.u8.wrap ((IntKind.i64.wrap (16 * j414))))) fun b499 => (Option.bind (app s378.1 ([b499] : List UInt8)) fun l513 => (some ((l513, (s378.2.2.1, s378.2.2.2)))))) else (Option.bind (idx s378.1 (IntKind.i64.wrap ((s378.2.1).tdiv 2))) fun x550 => (Option.bind (idx s378.1 (IntKind.i64.wrap ((s378.2.1).tdiv 2))) fun x552 => (Option.bind (u8 (IntKind.u8.wrap (((x550).toNat : Int) + (IntKind.u8.wrap (j414))))) fun b554 => (Option.bind (upd s378.1 (IntKind.i64.wrap ((s378.2.1).tdiv 2)) b554) fun l557 => (some ((l557, (s378.2.2.1, s378.2.2.2)))))))))) fun (j470 : ((List UInt8) × (Int × Int))) => (some (.inl (j470.1, (IntKind.i64.wrap (s378.2.1 + 1)), (j470.2.1, j470.2.2)))))) else (some (.inr ((s378.1, (s378.2.2.1, s378.2.2.2)))))))) fuel (([] : List UInt8), 0, ((0 : Int), (0 : Int))))) (fun r => (r.2 = (0, 0) ∧ HexR (bytesOf s_1) r) ∨ (r.2.1 = 1 ∧ HexR (bytesOf s_1) ([], r.2))) := by
  have hsz := size_bytes s_1
  rw [hsz] at hs he ⊢
  generalize hL : bytesOf s_1 = L at hs he ⊢
  refine Tot.loop (fun st => ∃ i : Nat, st.2.1 = (i : Int) ∧ i ≤ L.length ∧ ((st.2.2 = (0, 0) ∧ (∀ k (hk : k < L.length), k < i → 0 ≤ hv L[k]) ∧ Half 16 L i st.1) ∨ (st.2.2.1 = 1 ∧ HexR L ([], st.2.2)))) (fun st => L.length - st.2.1.toNat) ⟨0, rfl, by omega, .inl ⟨rfl, fun k _ h => absurd h (by omega), .inl ⟨0, rfl, rfl⟩⟩⟩ fun st ⟨i, e, hi, hst⟩ => ?_
  obtain ⟨out, k, f⟩ := st
  simp only at e
  subst e
  dsimp only
  rcases hst with ⟨ef, hall, hh⟩ | ⟨ef, hx⟩
  · simp only at ef
    subst ef
    dsimp only
    refine Tot.bindq (P := fun r => r = decide (i < L.length)) ?_ fun r hr => ?_
    · refine Tot.ite (fun h => ?_) (fun h => ?_)
      · have h : ((i : Nat) : Int) < (L.length : Int) := of_decide_eq_true h
        exact Tot.ret (by rw [decide_eq_true (by omega : i < L.length)]; rfl)
      · have h : ¬ ((i : Nat) : Int) < (L.length : Int) := of_decide_eq_false h
        exact Tot.ret (by rw [decide_eq_false (by omega : ¬ i < L.length)])
    · subst hr
      refine Tot.ite (fun h => ?_) (fun h => ?_)
      · have hq : i < L.length := of_decide_eq_true h
        refine Tot.bindq (P := fun r => r = hv L[i]) ?_ fun r hr => ?_
        · refine Tot.loop (fun st => ∃ k : Nat, st.2 = (k : Int) ∧ k ≤ 16 ∧ st.1 = (List.range k).foldl (fun (a : Int) k => if (((hexT.getD k 0).toNat : Int)) == (L[i].toNat : Int) then (k : Int) else a) (-1)) (fun st => 16 - st.2.toNat) ⟨0, rfl, by omega, rfl⟩ fun st ⟨k, e, hk, g⟩ => ?_
          obtain ⟨a, q⟩ := st
          simp only at e g
          subst e g
          dsimp only
          refine Tot.ite (fun h2 => ?_) (fun h2 => ?_)
          · have h2 : k < 16 := by have : ((k : Nat) : Int) < 16 := of_decide_eq_true h2; omega
            refine Tot.bind0 (sidx_hex h2) (Tot.bind0 (a := (L[i].toNat : Int)) (by rw [sidx_nat (by rw [hL]; exact hq)]; simp only [hL]) ?_)
            refine Tot.bindq (P := fun j => j = (List.range (k + 1)).foldl (fun (a : Int) k => if (((hexT.getD k 0).toNat : Int)) == (L[i].toNat : Int) then (k : Int) else a) (-1)) ?_ fun j hj => ?_
            · rw [hexfold _ k (by omega)]
              refine Tot.ite (fun h3 => Tot.ret (by rw [if_pos h3])) (fun h3 => Tot.ret (by rw [if_neg (by rw [h3]; simp)]))
            · subst hj
              have hw : IntKind.i64.wrap ((k : Int) + 1) = ((k + 1 : Nat) : Int) := by rw [i64_small (by omega) (by omega)]; omega
              rw [hw]
              refine Tot.ret ⟨⟨k + 1, rfl, h2, rfl⟩, ?_⟩
              show 16 - ((k + 1 : Nat) : Int).toNat < 16 - ((k : Nat) : Int).toNat
              omega
          · have h2 : k = 16 := by have : ¬ ((k : Nat) : Int) < 16 := of_decide_eq_false h2; omega
            subst h2
            exact Tot.ret (hv_at L[i]).2.2
        · subst hr
          have hw : IntKind.i64.wrap ((i : Int) + 1) = ((i + 1 : Nat) : Int) := by rw [i64_small (by omega) (by omega)]; omega
          rw [hw]
          have hd : IntKind.i64.wrap ((i : Int).tdiv 2) = ((i / 2 : Nat) : Int) := by
            rw [Int.tdiv_eq_ediv_of_nonneg (by omega), i64_small (by omega) (by omega)]; omega
          rw [hd]
          have hμ : L.length - ((i + 1 : Nat) : Int).toNat < L.length - ((i : Nat) : Int).toNat := by omega
          refine Tot.bindq (P := fun j => (j.2 = (0, 0) ∧ 0 ≤ hv L[i] ∧ Half 16 L (i + 1) j.1) ∨ (j.2.1 = 1 ∧ HexR L ([], j.2))) ?_ fun j hj => ?_
          · refine Tot.ite (fun h4 => ?_) (fun h4 => ?_)
            · have h4 : hv L[i] < 0 := of_decide_eq_true h4
              refine Tot.bindq (P := fun r => r = (1, (i : Int))) (by unfold ref4_At; exact Tot.ret rfl) fun r hr => Tot.ret ?_
              subst hr
              exact .inr ⟨rfl, .inl ⟨i, hq, h4, fun k hk => hall k (by omega) hk, rfl⟩⟩
            · have h4 : ¬ hv L[i] < 0 := of_decide_eq_false h4
              have hl := hn_lt L[i]
              rw [hn_eq (x := L[i]) (by omega)]
              rcases hh with ⟨m, em, eo⟩ | ⟨m, hm, em, eo⟩
              · subst em eo
                have hul := unhex_len (L.take (2 * m))
                rw [List.length_take, Nat.min_eq_left hi] at hul
                refine Tot.it ?_ ?_
                · rw [Int.tmod_eq_emod_of_nonneg (by omega)]
                  exact beq_iff_eq.2 (by omega)
                refine Tot.bind0 (a := UInt8.ofNat (16 * hn L[2 * m])) ?_ (Tot.bind0 (app_ok (by simp only [List.length_cons, List.length_nil]; omega)) (Tot.ret (.inl ⟨rfl, by omega, .inr ⟨m, hq, rfl, rfl⟩⟩)))
                rw [i64_small (by omega) (by omega), u8_small (by omega) (by omega), show 16 * (hn L[2 * m] : Int) = ((16 * hn L[2 * m] : Nat) : Int) by omega, u8_ok (by omega)]
              · subst em eo
                have hul := unhex_len (L.take (2 * m))
                rw [List.length_take, Nat.min_eq_left (by omega)] at hul
                have hl2 := hn_lt L[2 * m]
                refine Tot.if_ ?_ ?_
                · rw [Int.tmod_eq_emod_of_nonneg (by omega)]
                  exact beq_eq_false_iff_ne.2 (by omega)
                refine Tot.bind0 (get_mid _ _ _ (by omega)) (Tot.bind0 (get_mid _ _ _ (by omega)) (Tot.bind0 (a := UInt8.ofNat (16 * hn L[2 * m] + hn L[2 * m + 1])) ?_ (Tot.bind0 (upd_mid _ _ _ _ (by omega)) (Tot.ret (.inl ⟨rfl, by omega, .inl ⟨m + 1, by omega, ?_⟩⟩)))))
                · rw [UInt8.toNat_ofNat', Nat.mod_eq_of_lt (by omega), u8_small (x := (hn L[2 * m + 1] : Int)) (by omega) (by omega), u8_small (by omega) (by omega), show ((16 * hn L[2 * m] : Nat) : Int) + (hn L[2 * m + 1] : Int) = ((16 * hn L[2 * m] + hn L[2 * m + 1] : Nat) : Int) by omega, u8_ok (by omega)]
                · show unhex (L.take (2 * m)) ++ [UInt8.ofNat (16 * hn L[2 * m] + hn L[2 * m + 1])] = unhex (L.take (2 * (m + 1)))
                  rw [show 2 * (m + 1) = 2 * m + 1 + 1 by omega, take_snoc hq, take_snoc hm]
                  exact (unhex_app (by rw [List.length_take]; omega) _ _).symm
          · rcases hj with ⟨e, h5, h6⟩ | ⟨e, h5⟩
            · refine Tot.ret ⟨⟨i + 1, rfl, hq, .inl ⟨e, fun k hk h => ?_, h6⟩⟩, hμ⟩
              rcases (by omega : k < i ∨ k = i) with h' | h'
              · exact hall k hk h'
              · subst h'; exact h5
            · exact Tot.ret ⟨⟨i + 1, rfl, hq, .inr ⟨e, h5⟩⟩, hμ⟩
      · have h3 : i = L.length := by have : ¬ i < L.length := of_decide_eq_false h; omega
        subst h3
        refine Tot.ret (.inl ⟨rfl, .inr ⟨fun x hx => ?_, ?_⟩⟩)
        · obtain ⟨k, hk, e⟩ := List.mem_iff_getElem.1 hx
          subst e
          exact hall k hk hk
        · rcases hh with ⟨m, em, eo⟩ | ⟨m, hm, em, eo⟩
          · simp only at eo
            subst eo
            rw [← em, List.take_length]
          · omega
  · simp only at ef hx
    refine Tot.bindq (P := fun r => r = false) ?_ fun r hr => ?_
    · refine Tot.ite (fun h => ?_) (fun h => Tot.ret rfl)
      exact Tot.ret (by rw [ef]; rfl)
    · subst hr
      exact Tot.if_ rfl (Tot.ret (.inr ⟨ef, hx⟩))
end Go.Gv.R
namespace Go.Gv.R
open Go Go.Gv Go.Gv.D

/-! ### letters are read -/
def lv (x : UInt8) : Int := nIdxB [(65 : UInt8), (66 : UInt8), (67 : UInt8), (68 : UInt8), (69 : UInt8), (70 : UInt8), (71 : UInt8), (72 : UInt8), (73 : UInt8), (74 : UInt8), (75 : UInt8), (76 : UInt8), (77 : UInt8), (78 : UInt8), (79 : UInt8), (80 : UInt8), (81 : UInt8), (82 : UInt8), (83 : UInt8), (84 : UInt8), (85 : UInt8), (86 : UInt8), (87 : UInt8), (88 : UInt8), (89 : UInt8), (90 : UInt8), (97 : UInt8), (98 : UInt8), (99 : UInt8), (100 : UInt8), (101 : UInt8), (102 : UInt8), (103 : UInt8), (104 : UInt8), (105 : UInt8), (106 : UInt8), (107 : UInt8), (108 : UInt8), (109 : UInt8), (110 : UInt8), (111 : UInt8), (112 : UInt8), (113 : UInt8), (114 : UInt8), (115 : UInt8), (116 : UInt8), (117 : UInt8), (118 : UInt8), (119 : UInt8), (120 : UInt8), (121 : UInt8), (122 : UInt8), (48 : UInt8), (49 : UInt8), (50 : UInt8), (51 : UInt8), (52 : UInt8), (53 : UInt8), (54 : UInt8), (55 : UInt8), (56 : UInt8), (57 : UInt8), (43 : UInt8), (47 : UInt8)] (x.toNat : Int)
theorem lv_lt {n : Nat} (h : n < 64) : lv (lt n) = (n : Int) := by
  have : ((List.range 64).all fun n => lv (lt n) == ((n : Nat) : Int)) = true := by kernel_rfl
  exact eq_of_beq (List.all_eq_true.1 this n (List.mem_range.2 h))
theorem lv_eq : lv 61 = -1 := by kernel_rfl
theorem lv_ge (x : UInt8) : -1 ≤ lv x ∧ lv x < 64 := by
  have h : ((List.range 256).all fun n => decide (-1 ≤ lv (UInt8.ofNat n)) && decide (lv (UInt8.ofNat n) < 64)) = true := by kernel_rfl
  have := byte_all (p := fun n => decide (-1 ≤ lv (UInt8.ofNat n)) && decide (lv (UInt8.ofNat n) < 64)) h x
  simpa only [UInt8.ofNat_toNat, Bool.and_eq_true, decide_eq_true_eq] using this
theorem quad_len (y : List UInt8) : (quad y).length = 4 := rfl
theorem quad_get (y : List UInt8) {k : Nat} (h : k < 4) : (quad y)[k]'(by rw [quad_len]; exact h) = if k ≤ y.length then lt (num3 y / 2 ^ (18 - 6 * k) % 64) else 61 := by
  unfold quad
  rw [List.getElem_map, List.getElem_range]
theorem flatMap4_len (m : List (List UInt8)) : (m.flatMap quad).length = 4 * m.length := by
  induction m with
  | nil => rfl
  | cons x m ih => rw [List.flatMap_cons, List.length_append, quad_len, ih, List.length_cons]; omega
theorem flatMap4_get : ∀ (m : List (List UInt8)) (i k : Nat) (hi : i < m.length) (hk : k < 4) (h : 4 * i + k < (m.flatMap quad).length), (m.flatMap quad)[4 * i + k] = (quad m[i])[k]'(by rw [quad_len]; exact hk)
  | [], i, k, hi, _, _ => absurd hi (Nat.not_lt_zero _)
  | x :: m, 0, k, _, hk, h => by
    simp only [Nat.mul_zero, Nat.zero_add, List.flatMap_cons, List.getElem_cons_zero]
    rw [List.getElem_append_left (by rw [quad_len]; exact hk)]
  | x :: m, i + 1, k, hi, hk, h => by
    have hi' : i < m.length := by simp only [List.length_cons] at hi; omega
    have := flatMap4_get m i k hi' hk (by rw [flatMap4_len]; omega)
    simp only [List.flatMap_cons, List.getElem_cons_succ]
    rw [← this, List.getElem_append_right (by rw [quad_len]; omega)]
    congr 1
    rw [quad_len]; omega
theorem chunk_pos {b : List UInt8} {i : Nat} (h : i < (chunks b).length) : 0 < ((chunks b)[i]).length ∧ ((chunks b)[i]).length ≤ 3 := by
  have hc : (chunks b)[i] = chunk b i := by simp [chunks]
  rw [hc, chunk_len]
  simp [chunks] at h
  omega
theorem b64L_len (b : List UInt8) : (b64L b).length = 4 * ((b.length + 2) / 3) := by
  unfold b64L
  rw [flatMap4_len]
  simp [chunks]
theorem bytes3 (y : List UInt8) (h : 0 < y.length) (h' : y.length ≤ 3) : [UInt8.ofNat (num3 y / 65536), UInt8.ofNat (num3 y / 256), UInt8.ofNat (num3 y)].take y.length = y := by
  have hw : ∀ (a : Nat) (z : UInt8), a % 256 = z.toNat → UInt8.ofNat a = z := fun a z e => by
    apply UInt8.toNat.inj
    rw [UInt8.toNat_ofNat', e]
  match y, h, h' with
  | [a], _, _ =>
    have := byte_lt a
    simp only [num3, List.getD_cons_zero, List.getD_cons_succ, List.getD_nil, List.length_cons, List.length_nil, List.take_succ_cons, List.take_zero, UInt8.toNat_zero]
    rw [hw _ a (by omega)]
  | [a, b], _, _ =>
    have := byte_lt a
    have := byte_lt b
    simp only [num3, List.getD_cons_zero, List.getD_cons_succ, List.getD_nil, List.length_cons, List.length_nil, List.take_succ_cons, List.take_zero, UInt8.toNat_zero]
    rw [hw _ a (by omega), hw _ b (by omega)]
  | [a, b, c], _, _ =>
    have := byte_lt a
    have := byte_lt b
    have := byte_lt c
    simp only [num3, List.getD_cons_zero, List.getD_cons_succ, List.getD_nil, List.length_cons, List.length_nil, List.take_succ_cons, List.take_zero]
    rw [hw _ a (by omega), hw _ b (by omega), hw _ c (by omega)]
/-- the number that the first k letters of y make -/
def part (y : List UInt8) (k : Nat) : Nat := num3 y / 2 ^ (24 - 6 * k) * 2 ^ (24 - 6 * k)
theorem part_all (y : List UInt8) (h : 0 < y.length) (h' : y.length ≤ 3) : part y (y.length + 1) = num3 y := by
  match y, h, h' with
  | [a], _, _ =>
    simp only [part, num3, List.getD_cons_zero, List.getD_cons_succ, List.getD_nil, List.length_cons, List.length_nil, UInt8.toNat_zero]
    omega
  | [a, b], _, _ =>
    simp only [part, num3, List.getD_cons_zero, List.getD_cons_succ, List.getD_nil, List.length_cons, List.length_nil, UInt8.toNat_zero]
    omega
  | [a, b, c], _, _ =>
    simp only [part, num3, List.getD_cons_zero, List.getD_cons_succ, List.getD_nil, List.length_cons, List.length_nil]
    omega
theorem part_step (y : List UInt8) {k : Nat} (h : k < 4) : part y (k + 1) = part y k + num3 y / 2 ^ (18 - 6 * k) % 64 * 2 ^ (18 - 6 * k) := by
  have := num3_lt y
  unfold part
  generalize num3 y = n at this
  rcases (by omega : k = 0 ∨ k = 1 ∨ k = 2 ∨ k = 3) with e | e | e | e <;> subst e <;> simp only [Nat.mul_zero, Nat.mul_one, Nat.reduceMul, Nat.reduceAdd, Nat.reduceSub, Nat.reducePow] <;> omega
theorem shl_mul (m k : Nat) (hk : k ≤ 64) (h : m * 2 ^ k < 4611686018427387904) : shlI .i64 (m : Int) (k : Int) = ((m * 2 ^ k : Nat) : Int) := by
  unfold shlI
  rw [Int.toNat_natCast, show min k IntKind.i64.bits = k by show min k 64 = k; omega]
  have e : (m : Int) * 2 ^ k = ((m * 2 ^ k : Nat) : Int) := by simp
  rw [e, i64_small (by omega) (by omega)]
end Go.Gv.R
namespace Go.Gv.R
open Go Go.Gv Go.Gv.D

def bits6 (n : Nat) : List Nat := [n / 32 % 2, n / 16 % 2, n / 8 % 2, n / 4 % 2, n / 2 % 2, n / 1 % 2]
theorem bits6_eq (n : Nat) : bits6 n = (List.range 6).map fun k => n / 2 ^ (5 - k) % 2 := rfl
def let6 (x : UInt8) : List Nat := (List.range 64).flatMap fun k => if (lt k).toNat == x.toNat then bits6 k else []
theorem let6_lt {n : Nat} (h : n < 64) : let6 (lt n) = bits6 n := by
  have : ((List.range 64).all fun n => let6 (lt n) == bits6 n) = true := by kernel_rfl
  exact eq_of_beq (List.all_eq_true.1 this n (List.mem_range.2 h))
theorem let6_eq : let6 61 = [] := by kernel_rfl
theorem let6_le (x : UInt8) : (let6 x).length ≤ 6 := by
  have h : ((List.range 256).all fun n => decide ((let6 (UInt8.ofNat n)).length ≤ 6)) = true := by kernel_rfl
  have := byte_all (p := fun n => decide ((let6 (UInt8.ofNat n)).length ≤ 6)) h x
  simpa only [UInt8.ofNat_toNat, decide_eq_true_eq] using this
theorem flat6_len (l : List UInt8) : (l.flatMap let6).length ≤ 6 * l.length := by
  induction l with
  | nil => simp
  | cons x l ih =>
    have := let6_le x
    rw [List.flatMap_cons, List.length_append, List.length_cons]; omega
theorem letters6_back : ∀ (p : List Nat), p.length % 6 = 0 → (∀ n ∈ p, n ≤ 1) → (letters6 p).flatMap let6 = p
  | [], _, _ => rfl
  | [_], h, _ | [_, _], h, _ | [_, _, _], h, _ | [_, _, _, _], h, _ | [_, _, _, _, _], h, _ => by simp at h
  | a :: b :: c :: d :: e :: f :: l, h, hb => by
    have h' : l.length % 6 = 0 := by simp only [List.length_cons] at h; omega
    have ha := hb a (by simp)
    have hb' := hb b (by simp)
    have hc := hb c (by simp)
    have hd := hb d (by simp)
    have he := hb e (by simp)
    have hf := hb f (by simp)
    have ih := letters6_back l h' fun n hn => hb n (by simp [hn])
    show (lt _ :: letters6 l).flatMap let6 = _
    rw [List.flatMap_cons, ih, let6_lt (by omega)]
    have h1 : bits6 (32 * a + 16 * b + 8 * c + 4 * d + 2 * e + f) = [a, b, c, d, e, f] := by
      simp only [bits6, List.cons.injEq, and_true]
      omega
    rw [h1]
    rfl
theorem flat_pad (l : List UInt8) : (pad4 l).flatMap let6 = l.flatMap let6 := by
  unfold pad4
  rw [List.flatMap_append]
  have : ∀ n, (List.replicate n (61 : UInt8)).flatMap let6 = [] := fun n => by
    induction n with
    | zero => rfl
    | succ n ih => rw [List.replicate_succ, List.flatMap_cons, ih, let6_eq]; rfl
  rw [this, List.append_nil]
theorem b64_bits (x : List UInt8) : (b64L x).flatMap let6 = pad6 (bitsN x) := by
  rw [← sixty_eq]
  unfold sixty
  rw [flat_pad, letters6_back _ (pad6_len _).1 (pad6_bit bit_le)]
/-- octet m of the bits of x -/
theorem bits_at : ∀ (x : List UInt8) (m k : Nat) (hm : m < x.length) (hk : k < 8) (h : 8 * m + k < (bitsN x).length), (bitsN x)[8 * m + k] = x[m].toNat / 2 ^ (7 - k) % 2
  | [], m, k, hm, _, _ => absurd hm (Nat.not_lt_zero _)
  | y :: l, 0, k, _, hk, h => by
    simp only [Nat.mul_zero, Nat.zero_add, bitsN, List.flatMap_cons, List.getElem_cons_zero]
    rw [List.getElem_append_left (by rw [bits8_len]; exact hk)]
    simp only [bits8_eq, List.getElem_map, List.getElem_range]
  | y :: l, m + 1, k, hm, hk, h => by
    have hm' : m < l.length := by simp only [List.length_cons] at hm; omega
    have := bits_at l m k hm' hk (by rw [bitsN_len]; omega)
    simp only [List.getElem_cons_succ]
    rw [← this]
    simp only [bitsN, List.flatMap_cons]
    rw [List.getElem_append_right (by rw [bits8_len]; omega)]
    congr 1
    rw [bits8_len]; omega
end Go.Gv.R
namespace Go.Gv.R
open Go Go.Gv Go.Gv.D

theorem text_tot {s : ByteArray} {f : Int × Int} {want : ByteArray} {w : Int × Int} (h : (f, s) = if w.1 = 0 ∧ 4000 < want.size then ((3, -1), strOf []) else if w.1 ≠ 0 then (w, strOf []) else (w, want)) : Tot (fun fuel => law4_text fuel s f want w) (fun r => r = true) := by
  unfold law4_text
  obtain ⟨w1, w2⟩ := w
  dsimp only at h ⊢
  by_cases h1 : w1 = 0
  · subst h1
    refine Tot.bindq (P := fun r => r = decide ((want.size : Int) > 4000)) (Tot.it rfl (Tot.ret rfl)) fun r hr => ?_
    subst hr
    by_cases h2 : 4000 < want.size
    · rw [if_pos ⟨rfl, h2⟩] at h
      obtain ⟨e1, e2⟩ := Prod.mk.inj h
      subst e1 e2
      refine Tot.bindq (P := fun r => r = (3, -1)) (Tot.it (decide_eq_true (by omega)) (Tot.bindq (P := fun r => r = (3, -1)) (by unfold ref4_At; exact Tot.ret rfl) fun r hr => Tot.ret (by subst hr; rfl))) fun r hr => ?_
      subst hr
      exact Tot.it rfl (Tot.bindq (P := fun r => r = true) (Tot.it rfl (Tot.ret (by rw [str_eq]; exact decide_eq_true rfl))) fun r hr => Tot.ret hr)
    · rw [if_neg (fun h => h2 h.2), if_neg (fun h => h rfl)] at h
      obtain ⟨e1, e2⟩ := Prod.mk.inj h
      subst e1 e2
      refine Tot.bindq (P := fun r => r = (0, w2)) (Tot.if_ (decide_eq_false (by omega)) (Tot.ret rfl)) fun r hr => ?_
      subst hr
      exact Tot.if_ rfl (Tot.bindq (P := fun r => r = true) (Tot.it (by simp) (Tot.ret (by rw [str_eq]; exact decide_eq_true rfl))) fun r hr => Tot.ret hr)
  · rw [if_neg (fun h => h1 h.1), if_pos h1] at h
    obtain ⟨e1, e2⟩ := Prod.mk.inj h
    subst e1 e2
    refine Tot.bindq (P := fun r => r = false) (Tot.if_ (beq_eq_false_iff_ne.2 h1) (Tot.ret rfl)) fun r hr => ?_
    subst hr
    refine Tot.bindq (P := fun r => r = (w1, w2)) (Tot.if_ rfl (Tot.ret rfl)) fun r hr => ?_
    subst hr
    exact Tot.it (bne_iff_ne.2 h1) (Tot.bindq (P := fun r => r = true) (Tot.it (by simp) (Tot.ret (by rw [str_eq]; exact decide_eq_true rfl))) fun r hr => Tot.ret hr)
theorem hi_sub (x : UInt8) : ssub (strOf [48, 49, 50, 51, 52, 53, 54, 55, 56, 57, 97, 98, 99, 100, 101, 102]) (IntKind.u8.wrap ((x.toNat : Int).tdiv 16)) (IntKind.u8.wrap ((IntKind.u8.wrap ((x.toNat : Int).tdiv 16)) + 1)) = some (strOf [hx (x.toNat / 16)]) := by
  have h : ((List.range 256).all fun n => decide (ssub (strOf hexT) (IntKind.u8.wrap (((n : Nat) : Int).tdiv 16)) (IntKind.u8.wrap ((IntKind.u8.wrap (((n : Nat) : Int).tdiv 16)) + 1)) = some (strOf [hx (n / 16)]))) = true := by kernel_rfl
  exact of_decide_eq_true (byte_all (p := fun n => decide (ssub (strOf hexT) (IntKind.u8.wrap (((n : Nat) : Int).tdiv 16)) (IntKind.u8.wrap ((IntKind.u8.wrap (((n : Nat) : Int).tdiv 16)) + 1)) = some (strOf [hx (n / 16)]))) h x)
theorem lo_sub (x : UInt8) : ssub (strOf [48, 49, 50, 51, 52, 53, 54, 55, 56, 57, 97, 98, 99, 100, 101, 102]) ((x.toNat : Int).tmod 16) (IntKind.u8.wrap (((x.toNat : Int).tmod 16) + 1)) = some (strOf [hx (x.toNat % 16)]) := by
  have h : ((List.range 256).all fun n => decide (ssub (strOf hexT) (((n : Nat) : Int).tmod 16) (IntKind.u8.wrap ((((n : Nat) : Int).tmod 16) + 1)) = some (strOf [hx (n % 16)]))) = true := by kernel_rfl
  exact of_decide_eq_true (byte_all (p := fun n => decide (ssub (strOf hexT) (((n : Nat) : Int).tmod 16) (IntKind.u8.wrap ((((n : Nat) : Int).tmod 16) + 1)) = some (strOf [hx (n % 16)]))) h x)

theorem hexOut_tot {b_0 : List UInt8} (hb : b_0.length ≤ 1048576) : Tot (fun fuel => (loopN (fun (s100 : (ByteArray × Int)) => (if ((decide (s100.2 < ((List.length b_0 : Nat) : Int))) && (decide (s100.2 ≤ 2001))) then (Option.bind (idx b_0 s100.2) fun x136 => (Option.bind (idx b_0 s100.2) fun x139 => (Option.bind (idx b_0 s100.2) fun x141 => (Option.bind (idx b_0 s100.2) fun x143 => (Option.bind (ssub (strOf [48, 49, 50, 51, 52, 53, 54, 55, 56, 57, 97, 98, 99, 100, 101, 102]) (IntKind.u8.wrap ((((x136).toNat : Int)).tdiv 16)) (IntKind.u8.wrap ((IntKind.u8.wrap ((((x139).toNat : Int)).tdiv 16)) + 1))) fun x146 => (Option.bind (ssub (strOf [48, 49, 50, 51, 52, 53, 54, 55, 56, 57, 97, 98, 99, 100, 101, 102]) ((((x141).toNat : Int)).tmod 16) (IntKind.u8.wrap (((((x143).toNat : Int)).tmod 16) + 1))) fun x148 => (Option.bind (cat x146 x148) fun x150 => (Option.bind (cat s100.1 x150) fun x152 => (some (.inl (x152, (IntKind.i64.wrap (s100.2 + 1))))))))))))) else (some (.inr (s100.1))))) fuel ((strOf []), 0))) (fun r => r = strOf (hexL (b_0.take 2002))) := by
  refine Tot.loop (fun st => ∃ i : Nat, st.2 = (i : Int) ∧ i ≤ b_0.length ∧ i ≤ 2002 ∧ st.1 = strOf (hexL (b_0.take i))) (fun st => b_0.length - st.2.toNat) ⟨0, rfl, by omega, by omega, rfl⟩ fun st ⟨i, e, hi, hi2, g⟩ => ?_
  obtain ⟨out, q⟩ := st
  simp only at e g
  subst e g
  dsimp only
  have hlen := hexL_len (b_0.take i)
  rw [List.length_take] at hlen
  refine Tot.ite (fun h => ?_) (fun h => ?_)
  · obtain ⟨h1, h2⟩ := Bool.and_eq_true_iff.1 h
    have h1 : ((i : Nat) : Int) < (b_0.length : Int) := of_decide_eq_true h1
    have h2 : ((i : Nat) : Int) ≤ 2001 := of_decide_eq_true h2
    have hq : i < b_0.length := by omega
    refine Tot.bind0 (idx_nat hq) (Tot.bind0 (idx_nat hq) (Tot.bind0 (idx_nat hq) (Tot.bind0 (idx_nat hq) (Tot.bind0 (hi_sub _) (Tot.bind0 (lo_sub _) (Tot.bind0 (cat_str (by simp)) (Tot.bind0 (cat_str ?_) (Tot.ret ⟨⟨i + 1, ?_, by omega, by omega, ?_⟩, ?_⟩))))))))
    · simp only [List.length_append, List.length_cons, List.length_nil]; omega
    · show IntKind.i64.wrap ((i : Int) + 1) = ((i + 1 : Nat) : Int)
      rw [i64_small (by omega) (by omega)]; omega
    · rw [take_snoc hq, hexL_snoc]; rfl
    · show b_0.length - (IntKind.i64.wrap ((i : Int) + 1)).toNat < b_0.length - ((i : Nat) : Int).toNat
      rw [i64_small (by omega) (by omega)]; omega
  · refine Tot.ret ?_
    have h : ¬ (((i : Nat) : Int) < (b_0.length : Int) ∧ ((i : Nat) : Int) ≤ 2001) := fun ⟨h1, h2⟩ => by
      rw [decide_eq_true h1, decide_eq_true h2] at h; cases h
    rcases (by omega : i = b_0.length ∨ i = 2002) with h | h
    · subst h
      rw [List.take_length, List.take_of_length_le hi2]
    · rw [h]

end Go.Gv.R
