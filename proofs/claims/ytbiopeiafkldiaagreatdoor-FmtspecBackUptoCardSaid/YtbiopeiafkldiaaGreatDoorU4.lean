import Derived.Test.YtbiopeiafkldiaaGreatDoorU1
set_option linter.all false
namespace Go.Gv.R
open Go Go.Gv Go.Gv.D Go.Lib

/-! ### the reference's unit -/
def bad (x : Nat × Nat) : Prop := x.1 = 65533 ∧ x.2 = 1
instance (x : Nat × Nat) : Decidable (bad x) := inferInstanceAs (Decidable (_ ∧ _))
def U (l : List UInt8) : Int × Int := if bad (decodeL l) then (0, 0) else (((decodeL l).1 : Int), ((decodeL l).2 : Int))
theorem drop_getD (s : List UInt8) (i k : Nat) : (s.drop i).getD k 0 = s.getD (i + k) 0 := by
  rw [List.getD_eq_getElem?_getD, List.getD_eq_getElem?_getD, List.getElem?_drop]
theorem and3 {a b c : Bool} : (a && (b && c)) = true ↔ a = true ∧ b = true ∧ c = true := by simp
end Go.Gv.R
namespace Go.Gv.R
open Go Go.Gv Go.Gv.D Go.Lib

/-! ### a text's runes, as the range statement takes them -/
theorem decode_drop (s : ByteArray) (i : Nat) : Utf8.decode s i = decodeL ((bytesOf s).drop i) := by
  rw [decode_at, decodeL_N, drop_getD, drop_getD, drop_getD, drop_getD, List.length_drop, get_getD, get_getD, get_getD, get_getD, size_bytes]
  simp only [Nat.add_zero]
theorem rune_at {s : ByteArray} {p t : List Nat} {r : Nat} (hr : Scal r) (h : bytesOf s = enc (p ++ r :: t)) : runeI s (enc p).length = (r : Int) ∧ runeN s (enc p).length = (encR r).length := by
  unfold runeI runeN
  rw [decode_drop, h, enc_app, List.drop_left, enc_cons, decode_enc r hr]
  exact ⟨rfl, rfl⟩

/-! ### codings -/
def codeR (c : Int) (r : Nat) : List UInt8 :=
  if c = 0 then encR r else if c = 1 then [UInt8.ofNat r] else if r < 65536 then [UInt8.ofNat (r / 256), UInt8.ofNat (r % 256)]
  else [UInt8.ofNat (216 + (r - 65536) / 1024 / 256), UInt8.ofNat ((r - 65536) / 1024 % 256), UInt8.ofNat (220 + (r - 65536) % 1024 / 256), UInt8.ofNat ((r - 65536) % 1024 % 256)]
def codeL (c : Int) (p : List Nat) : List UInt8 := p.flatMap (codeR c)
theorem codeR_len (c : Int) (r : Nat) : (codeR c r).length ≤ 4 := by
  unfold codeR
  have := encR_pos r
  repeat' split
  all_goals first | omega | (simp only [List.length_cons, List.length_nil]; omega)
theorem codeL_len (c : Int) (p : List Nat) : (codeL c p).length ≤ 4 * p.length := by
  induction p with
  | nil => simp [codeL]
  | cons r p ih =>
    have := codeR_len c r
    unfold codeL at *
    rw [List.flatMap_cons, List.length_append, List.length_cons]; omega
theorem codeL_zero (p : List Nat) : codeL 0 p = enc p := by
  have : codeR 0 = encR := by funext r; unfold codeR; rw [if_pos rfl]
  unfold codeL enc
  rw [this]
end Go.Gv.R
namespace Go.Gv.R
open Go Go.Gv Go.Gv.D Go.Lib

theorem iw {x : Int} {n : Nat} (h : x = (n : Int)) (h' : n < 4611686018427387904) : IntKind.i64.wrap x = (n : Int) := by rw [h, i64_small (by omega) (by omega)]
theorem enc_len_le (p : List Nat) : (enc p).length ≤ 4 * p.length := by rw [← codeL_zero]; exact codeL_len 0 p
theorem toU8 (n : Nat) : ((n : Int).toNat.toUInt8) = UInt8.ofNat n := by rw [Int.toNat_natCast]
theorem encR1 {r : Nat} (h : r ≤ 127) : encR r = [UInt8.ofNat r] := by
  unfold encR encodeRune
  rw [encodeRuneZ_one (by omega) (by omega)]
  simp only [List.map_cons, List.map_nil, toU8]
theorem encR2 {r : Nat} (h : 128 ≤ r) (h' : r ≤ 2047) : encR r = [UInt8.ofNat (192 + r / 64), UInt8.ofNat (128 + r % 64)] := by
  unfold encR encodeRune
  rw [encodeRuneZ_two (by omega) (by omega), show 192 + (r : Int) / 64 = ((192 + r / 64 : Nat) : Int) by omega, show 128 + (r : Int) % 64 = ((128 + r % 64 : Nat) : Int) by omega]
  simp only [List.map_cons, List.map_nil, toU8]
theorem encR3 {r : Nat} (h : 2048 ≤ r) (h' : r ≤ 65535) (hs : Scal r) : encR r = [UInt8.ofNat (224 + r / 4096), UInt8.ofNat (128 + r / 64 % 64), UInt8.ofNat (128 + r % 64)] := by
  unfold Scal at hs
  unfold encR encodeRune
  rw [encodeRuneZ_three (by omega), show 224 + (r : Int) / 4096 = ((224 + r / 4096 : Nat) : Int) by omega, show 128 + (r : Int) / 64 % 64 = ((128 + r / 64 % 64 : Nat) : Int) by omega, show 128 + (r : Int) % 64 = ((128 + r % 64 : Nat) : Int) by omega]
  simp only [List.map_cons, List.map_nil, toU8]
theorem encR4 {r : Nat} (h : 65536 ≤ r) (h' : r ≤ 1114111) : encR r = [UInt8.ofNat (240 + r / 262144), UInt8.ofNat (128 + r / 4096 % 64), UInt8.ofNat (128 + r / 64 % 64), UInt8.ofNat (128 + r % 64)] := by
  unfold encR encodeRune
  rw [encodeRuneZ_four (by omega) (by omega), show 240 + (r : Int) / 262144 = ((240 + r / 262144 : Nat) : Int) by omega, show 128 + (r : Int) / 4096 % 64 = ((128 + r / 4096 % 64 : Nat) : Int) by omega, show 128 + (r : Int) / 64 % 64 = ((128 + r / 64 % 64 : Nat) : Int) by omega, show 128 + (r : Int) % 64 = ((128 + r % 64 : Nat) : Int) by omega]
  simp only [List.map_cons, List.map_nil, toU8]
theorem td {a : Nat} (k : Nat) (h : a < 4611686018427387904) : IntKind.i64.wrap ((a : Int).tdiv (k : Int)) = ((a / k : Nat) : Int) := by
  have : a / k ≤ a := Nat.div_le_self ..
  rw [Int.tdiv_eq_ediv_of_nonneg (by omega)]
  exact iw (by simp) (by omega)
end Go.Gv.R

