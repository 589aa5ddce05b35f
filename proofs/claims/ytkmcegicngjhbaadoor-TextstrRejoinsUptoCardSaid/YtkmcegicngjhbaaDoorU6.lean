import Derived.Test.YtkmcegicngjhbaaDoorU5
set_option linter.all false
namespace Go.Gv.R
open Go Go.Gv Go.Gv.D Go.Lib

theorem iw {x : Int} {n : Nat} (h : x = (n : Int)) (h' : n < 4611686018427387904) : IntKind.i64.wrap x = (n : Int) := by rw [h, i64_small (by omega) (by omega)]
theorem enc_len_le (p : List Nat) : (enc p).length ≤ 4 * p.length := by rw [← codeL_zero]; exact codeL_len 0 p
theorem enc_snoc (p : List Nat) (r : Nat) : enc (p ++ [r]) = enc p ++ encR r := by rw [enc_app]; simp [enc]
theorem toU8 (n : Nat) : ((n : Int).toNat.toUInt8) = UInt8.ofNat n := by rw [Int.toNat_natCast]
theorem encR1 {r : Nat} (h : r ≤ 127) : encR r = [UInt8.ofNat r] := by
  unfold encR encodeRune
  rw [encodeRuneZ_one (by omega) (by omega)]
  simp only [List.map_cons, List.map_nil, toU8]
theorem encR2 {r : Nat} (h : 128 ≤ r) (h' : r ≤ 2047) : encR r = [UInt8.ofNat (192 + r / 64), UInt8.ofNat (128 + r % 64)] := by
  unfold encR encodeRune
  rw [encodeRuneZ_two (by omega) (by omega), show 192 + (r : Int) / 64 = ((192 + r / 64 : Nat) : Int) by omega, show 128 + (r : Int) % 64 = ((128 + r % 64 : Nat) : Int) by omega]
  simp only [List.map_cons, List.map_nil, toU8]
theorem encR3 {r : Nat} (h : 2048 ≤ r) (h' : r ≤ 65535) (hs : Scal r) : encR r = [UInt8.ofNat (224 + r / 4096), UInt8.ofNat (128 + r / 64 % 64), UInt8.ofNat (128 + r % 64)] := by
  unfold Scal at hs
  unfold encR encodeRune
  rw [encodeRuneZ_three (by omega), show 224 + (r : Int) / 4096 = ((224 + r / 4096 : Nat) : Int) by omega, show 128 + (r : Int) / 64 % 64 = ((128 + r / 64 % 64 : Nat) : Int) by omega, show 128 + (r : Int) % 64 = ((128 + r % 64 : Nat) : Int) by omega]
  simp only [List.map_cons, List.map_nil, toU8]
theorem encR4 {r : Nat} (h : 65536 ≤ r) (h' : r ≤ 1114111) : encR r = [UInt8.ofNat (240 + r / 262144), UInt8.ofNat (128 + r / 4096 % 64), UInt8.ofNat (128 + r / 64 % 64), UInt8.ofNat (128 + r % 64)] := by
  unfold encR encodeRune
  rw [encodeRuneZ_four (by omega) (by omega), show 240 + (r : Int) / 262144 = ((240 + r / 262144 : Nat) : Int) by omega, show 128 + (r : Int) / 4096 % 64 = ((128 + r / 4096 % 64 : Nat) : Int) by omega, show 128 + (r : Int) / 64 % 64 = ((128 + r / 64 % 64 : Nat) : Int) by omega, show 128 + (r : Int) % 64 = ((128 + r % 64 : Nat) : Int) by omega]
  simp only [List.map_cons, List.map_nil, toU8]
theorem td {a : Nat} (k : Nat) (h : a < 4611686018427387904) : IntKind.i64.wrap ((a : Int).tdiv (k : Int)) = ((a / k : Nat) : Int) := by
  have : a / k ≤ a := Nat.div_le_self ..
  rw [Int.tdiv_eq_ediv_of_nonneg (by omega)]
  exact iw (by simp) (by omega)
theorem tm (a k : Nat) : (a : Int).tmod (k : Int) = ((a % k : Nat) : Int) := by
  rw [Int.tmod_eq_emod_of_nonneg (by omega)]; simp
theorem plus (a b : Nat) (h : a + b < 4611686018427387904) : IntKind.i64.wrap ((a : Int) + (b : Int)) = ((a + b : Nat) : Int) := iw (by omega) h
theorem Encoded_tot {p : List Nat} (hp : ∀ r ∈ p, Scal r) (hl : p.length ≤ 100000000) : Tot (fun fuel => ref4_Encoded fuel (ints p)) (fun r => r = enc p) := by
  unfold ref4_Encoded
  refine Tot.bindq (P := fun r => r = enc p) ?_ fun r hr => Tot.ret hr
  refine Tot.loop (fun st => ∃ i : Nat, st.2 = (i : Int) ∧ i ≤ p.length ∧ st.1 = enc (p.take i)) (fun st => p.length - st.2.toNat) ⟨0, rfl, by omega, rfl⟩ fun st ⟨i, e, hi, g⟩ => ?_
  obtain ⟨out, q⟩ := st
  simp only at e g
  subst e g
  dsimp only
  rw [ints_len]
  refine Tot.ite (fun h => ?_) (fun h => ?_)
  · have hq : i < p.length := by have : ((i : Nat) : Int) < (p.length : Int) := of_decide_eq_true h; omega
    have hr := hp _ (List.getElem_mem hq)
    have hlen := enc_len_le (p.take i)
    rw [List.length_take] at hlen
    refine Tot.bind0 (ints_get hq) ?_
    refine Tot.bindq (P := fun r => r = enc (p.take (i + 1))) ?_ fun r hr => ?_
    · rw [take_snoc hq, enc_snoc]
      have hsc := hr
      have hrs : p[i] ≤ 1114111 := by unfold Scal at hr; omega
      clear hr
      generalize p[i] = r at hsc hrs
      generalize enc (p.take i) = A at hlen
      have happ : ∀ y : List UInt8, y.length ≤ 4 → app A y = some (A ++ y) := fun y hy => app_ok (by omega)
      refine Tot.ite (fun c => ?_) (fun c => ?_)
      · have c : r < 128 := by have : (r : Int) < 128 := of_decide_eq_true c; omega
        rw [encR1 (by omega)]
        exact Tot.bind0 (u8_of rfl) (Tot.bind0 (happ _ (by simp)) (Tot.ret rfl))
      have c : ¬ r < 128 := by have : ¬ (r : Int) < 128 := of_decide_eq_false c; omega
      refine Tot.ite (fun c2 => ?_) (fun c2 => ?_)
      · have c2 : r < 2048 := by have : (r : Int) < 2048 := of_decide_eq_true c2; omega
        rw [encR2 (by omega) (by omega), show (64 : Int) = ((64 : Nat) : Int) from rfl, td 64 (by omega), tm, show (192 : Int) = ((192 : Nat) : Int) from rfl, show (128 : Int) = ((128 : Nat) : Int) from rfl, plus 192 _ (by omega), plus 128 _ (by omega)]
        exact Tot.bind0 (u8_of rfl) (Tot.bind0 (u8_of rfl) (Tot.bind0 (happ _ (by simp)) (Tot.ret rfl)))
      have c2 : ¬ r < 2048 := by have : ¬ (r : Int) < 2048 := of_decide_eq_false c2; omega
      refine Tot.ite (fun c3 => ?_) (fun c3 => ?_)
      · have c3 : r < 65536 := by have : (r : Int) < 65536 := of_decide_eq_true c3; omega
        rw [encR3 (by omega) (by omega) hsc, show (64 : Int) = ((64 : Nat) : Int) from rfl, show (4096 : Int) = ((4096 : Nat) : Int) from rfl, td 64 (by omega), td 4096 (by omega), tm, tm, show (224 : Int) = ((224 : Nat) : Int) from rfl, show (128 : Int) = ((128 : Nat) : Int) from rfl, plus 224 _ (by omega), plus 128 _ (by omega), plus 128 _ (by omega)]
        exact Tot.bind0 (u8_of rfl) (Tot.bind0 (u8_of rfl) (Tot.bind0 (u8_of rfl) (Tot.bind0 (happ _ (by simp)) (Tot.ret rfl))))
      · have c3 : ¬ r < 65536 := by have : ¬ (r : Int) < 65536 := of_decide_eq_false c3; omega
        rw [encR4 (by omega) (by omega), show (64 : Int) = ((64 : Nat) : Int) from rfl, show (4096 : Int) = ((4096 : Nat) : Int) from rfl, show (262144 : Int) = ((262144 : Nat) : Int) from rfl, td 64 (by omega), td 4096 (by omega), td 262144 (by omega), tm, tm, tm, show (240 : Int) = ((240 : Nat) : Int) from rfl, show (128 : Int) = ((128 : Nat) : Int) from rfl, plus 240 _ (by omega), plus 128 _ (by omega), plus 128 _ (by omega), plus 128 _ (by omega)]
        exact Tot.bind0 (u8_of rfl) (Tot.bind0 (u8_of rfl) (Tot.bind0 (u8_of rfl) (Tot.bind0 (u8_of rfl) (Tot.bind0 (happ _ (by simp)) (Tot.ret rfl)))))
    · subst hr
      refine Tot.ret ⟨⟨i + 1, ?_, hq, rfl⟩, ?_⟩
      · exact iw (by omega) (by omega)
      · show p.length - (IntKind.i64.wrap ((i : Int) + 1)).toNat < p.length - ((i : Nat) : Int).toNat
        rw [iw (n := i + 1) (by omega) (by omega)]; omega
  · have h : i = p.length := by have : ¬ ((i : Nat) : Int) < (p.length : Int) := of_decide_eq_false h; omega
    subst h
    exact Tot.ret (by rw [List.take_length])
theorem String_tot {p : List Nat} (hp : ∀ r ∈ p, Scal r) (hl : p.length ≤ 100000000) : Tot (fun fuel => ref4_String fuel (ints p)) (fun r => r = strOf (enc p)) := by
  unfold ref4_String
  exact Tot.bindq (Encoded_tot hp hl) fun r hr => Tot.ret (by rw [hr])

theorem sur216 (z : Nat) (h : z < 1048576) : IntKind.i64.wrap (216 + IntKind.i64.wrap ((IntKind.i64.wrap ((z : Int).tdiv 1024)).tdiv 256)) = ((216 + z / 1024 / 256 : Nat) : Int) := by
  rw [show (1024 : Int) = ((1024 : Nat) : Int) from rfl, show (256 : Int) = ((256 : Nat) : Int) from rfl, td 1024 (by omega), td 256 (by omega), show (216 : Int) = ((216 : Nat) : Int) from rfl, plus 216 _ (by omega)]
theorem sur220 (z : Nat) (h : z < 1048576) : IntKind.i64.wrap (220 + IntKind.i64.wrap (((z : Int).tmod 1024).tdiv 256)) = ((220 + z % 1024 / 256 : Nat) : Int) := by
  rw [show (1024 : Int) = ((1024 : Nat) : Int) from rfl, show (256 : Int) = ((256 : Nat) : Int) from rfl, tm, td 256 (by omega), show (220 : Int) = ((220 : Nat) : Int) from rfl, plus 220 _ (by omega)]
theorem surm1 (z : Nat) (h : z < 1048576) : (IntKind.i64.wrap ((z : Int).tdiv 1024)).tmod 256 = ((z / 1024 % 256 : Nat) : Int) := by
  rw [show (1024 : Int) = ((1024 : Nat) : Int) from rfl, show (256 : Int) = ((256 : Nat) : Int) from rfl, td 1024 (by omega), tm]
theorem surm2 (z : Nat) : ((z : Int).tmod 1024).tmod 256 = ((z % 1024 % 256 : Nat) : Int) := by
  rw [show (1024 : Int) = ((1024 : Nat) : Int) from rfl, show (256 : Int) = ((256 : Nat) : Int) from rfl, tm, tm]
end Go.Gv.R
