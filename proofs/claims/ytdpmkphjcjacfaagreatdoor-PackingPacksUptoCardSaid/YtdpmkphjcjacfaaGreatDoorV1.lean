import Derived.Test.YtdpmkphjcjacfaaGreatDoorU6
set_option linter.all false
namespace Go.Gv.P
open Go Go.Gv Go.Gv.D Go.Gv.R Go.Gv.RI
set_option maxRecDepth 100000

/-! ### the reference's whole numbers, by what they stand for -/
def Rep (a : Bool × List Int) (n : Int) : Prop := Ok3 a.2 ∧ iv3 a = n
theorem Rep.abs {a : Bool × List Int} {n : Int} (h : Rep a n) : w a.2 = n.natAbs := by
  have h0 := w_nonneg h.1
  have h2 := h.2
  unfold iv3 at h2
  split at h2 <;> omega
theorem Rep.len {a : Bool × List Int} {n : Int} (h : Rep a n) (hn : (n.natAbs : Int) < 1000000000000000000000000000000000000000000000000000000000000) : a.2.length ≤ 20000 := by
  have h1 := (h.1.lenBig).2 (by rw [h.abs]; exact Int.lt_trans hn (by unfold Big; decide +kernel))
  omega
theorem rNumber {n : Int} (h0 : -4611686018427387904 < n) (h1 : n < 4611686018427387904) : Tot (fun fuel => ref3_Number fuel n) (fun r => Rep (r.1, r.2) n) :=
  (Number_tot h0 h1).mono fun r ⟨g1, g2, g3⟩ => by
    refine ⟨g2, ?_⟩
    show (if r.1 = true then - w r.2 else w r.2) = n
    rw [g1, g3]
    by_cases h : n < 0
    · rw [if_pos (decide_eq_true h)]; omega
    · rw [if_neg (by rw [decide_eq_false h]; decide)]; omega
theorem rPlus {a b : Bool × List Int} {m n : Int} (ha : Rep a m) (hb : Rep b n) (hm : (m.natAbs : Int) < 1000000000000000000000000000000000000000000000000000000000000) (hn : (n.natAbs : Int) < 1000000000000000000000000000000000000000000000000000000000000) : Tot (fun fuel => ref3_Int_Plus fuel a b) (fun r => Rep (r.1, r.2) (m + n)) :=
  (IPlus_tot ha.1 hb.1 (ha.len hm) (hb.len hn)).mono fun r ⟨g1, g2⟩ => ⟨g1, by rw [← ha.2, ← hb.2]; exact g2⟩
theorem rMinus {a : Bool × List Int} {m : Int} (ha : Rep a m) : Tot (fun fuel => ref3_Int_Minus fuel a) (fun r => Rep (r.1, r.2) (-m)) :=
  (IMinus_tot ha.1).mono fun r ⟨g1, g2⟩ => ⟨by show Ok3 r.2; rw [g1]; exact ha.1, by rw [← ha.2]; exact g2⟩
theorem rOrder {a b : Bool × List Int} {m n : Int} (ha : Rep a m) (hb : Rep b n) : Tot (fun fuel => ref3_Int_Order fuel a b) (fun r => (r < 0 ↔ m < n) ∧ (r = 0 ↔ m = n)) :=
  (Order_tot ha.1 hb.1).mono fun r h => by rw [← ha.2, ← hb.2]; exact h
theorem rMoved1 {a : Bool × List Int} {n : Nat} (ha : Rep a 1) (hn : n ≤ 64) : Tot (fun fuel => ref3_Int_Moved fuel a (n : Int)) (fun r => Rep (r.1, r.2) (2 ^ n)) := by
  unfold ref3_Int_Moved
  have h1 : w a.2 = 1 := ha.abs
  have h2 : a.1 = false := by
    have := ha.2
    unfold iv3 at this
    cases h : a.1 with
    | false => rfl
    | true => rw [h, if_pos rfl, h1] at this; omega
  rw [h2]
  refine Tot.bindq (P := (· = true)) (Tot.it rfl (Tot.ret rfl)) fun j hj => ?_
  subst hj
  refine Tot.it rfl (Tot.bindq (Moved_tot ha.1 (ha.len (by decide)) (by omega) (by omega)) fun r ⟨g1, g2⟩ => Tot.ret ⟨g1, ?_⟩)
  show w r = _
  rw [g2, h1, Int.one_mul]
/-! ### what a field's bytes stand for -/
def word (big : Bool) (l : List UInt8) : Nat := wLE (if big then l.reverse else l)
def sgn (s : Bool) (n u : Nat) : Int := if s = true ∧ 2 ^ (8 * n - 1) ≤ u then (u : Int) - 2 ^ (8 * n) else u
def unzig (u : Nat) : Int := if u % 2 = 1 then -1 - ((u / 2 : Nat) : Int) else ((u / 2 : Nat) : Int)
def vrd : Nat → List UInt8 → Int × Nat × Nat
  | _, [] => (15, 0, 0)
  | k, b :: t => if (k = 9 ∧ 1 < b.toNat) ∨ (0 < k ∧ b.toNat = 0) then (16, 0, 0) else if b.toNat < 128 then (0, b.toNat, 1) else
     if (vrd (k + 1) t).1 = 0 then (0, b.toNat % 128 + 128 * (vrd (k + 1) t).2.1, (vrd (k + 1) t).2.2 + 1) else ((vrd (k + 1) t).1, 0, 0)
abbrev txt (l : List UInt8) : Val := (5, (false, []), (false, []), strOf l, 0)
def rdF (x : Fld) (d : List UInt8) : Int × Val × Nat :=
  if 0 < wid x.1.toNat then (if d.length < (wid x.1.toNat).toNat then (15, zv, 0) else (0, valOf (sgn (decide (97 ≤ x.1.toNat)) (wid x.1.toNat).toNat (word x.2.2 (d.take (wid x.1.toNat).toNat))), (wid x.1.toNat).toNat))
  else if x.1.toNat = 118 then (if (vrd 0 d).1 = 0 then (0, valOf (unzig (vrd 0 d).2.1), (vrd 0 d).2.2) else ((vrd 0 d).1, zv, 0))
  else if x.1.toNat = 63 then match d with | [] => (15, zv, 0) | b :: _ => if 1 < b.toNat then (16, zv, 0) else (0, (1, (false, []), (false, []), strOf [], (b.toNat : Int)), 1)
  else if x.1.toNat = 112 then match d with | [] => (15, zv, 0) | b :: t => if t.length < b.toNat then (15, zv, 0) else (0, txt (t.take b.toNat), b.toNat + 1)
  else if d.length < x.2.1.toNat then (15, zv, 0) else if x.1.toNat = 120 ∧ ∃ b ∈ d.take x.2.1.toNat, b.toNat ≠ 0 then (16, zv, 0) else (0, txt (d.take x.2.1.toNat), x.2.1.toNat)
/-- all fields, one behind the other -/
def unp : List Fld → Nat → List UInt8 → List Val → List Val × (Int × Int)
  | [], _, d, out => if d ≠ [] then ([], (3, -2)) else (out, (0, 0))
  | x :: l, i, d, out => if (rdF x d).1 ≠ 0 then ([], ((rdF x d).1, (i : Int))) else unp l (i + 1) (d.drop (rdF x d).2.2) (if x.1 ≠ 120 then out ++ [(rdF x d).2.1] else out)
theorem vrd_len : ∀ (d : List UInt8) (k : Nat), (vrd k d).1 = 0 → 1 ≤ (vrd k d).2.2 ∧ (vrd k d).2.2 ≤ d.length
  | [], k, h => by simp [vrd] at h
  | b :: t, k, h => by
    unfold vrd at h ⊢
    split at h
    · simp at h
    · rename_i h1
      rw [if_neg h1]
      by_cases h2 : b.toNat < 128
      · rw [if_pos h2]; simp
      · rw [if_neg h2] at h ⊢
        by_cases h3 : (vrd (k + 1) t).1 = 0
        · have := vrd_len t (k + 1) h3
          rw [if_pos h3]
          simp only [List.length_cons]; omega
        · rw [if_neg h3] at h; exact absurd h h3
end Go.Gv.P
namespace Go.Gv.P
open Go Go.Gv Go.Gv.D Go.Gv.R
set_option maxRecDepth 100000
theorem take_gen {data : List UInt8} {p n : Nat} (hl : data.length ≤ 1048576) (hp : p ≤ data.length) (hn : n ≤ 1048576) : Tot (fun fuel => packing_reader_take fuel (data, (p : Int)) (n : Int)) (· = if (data.drop p).length < n then ([], false, (data, (p : Int))) else ((data.drop p).take n, true, (data, ((p + n : Nat) : Int)))) := by
  unfold packing_reader_take
  rw [i64_small (by show (-4611686018427387904 : Int) ≤ (data.length : Int) - (p : Int); omega) (by show (data.length : Int) - (p : Int) ≤ 4611686018427387904; omega), List.length_drop]
  refine Tot.ite (fun h => Tot.ret ?_) (fun h => ?_)
  · have h : (n : Int) > (data.length : Int) - (p : Int) := of_decide_eq_true h
    rw [if_pos (by omega)]
  · have h : ¬ (n : Int) > (data.length : Int) - (p : Int) := of_decide_eq_false h
    have e1 : IntKind.i64.wrap ((p : Int) + n) = ((p + n : Nat) : Int) := by rw [i64_small (by omega) (by omega)]; omega
    have e2 : IntKind.i64.wrap (IntKind.i64.wrap ((p : Int) + n) - n) = (p : Int) := by rw [e1, i64_small (by omega) (by omega)]; omega
    show Tot (fun fuel => Option.bind (sub data (IntKind.i64.wrap (IntKind.i64.wrap ((p : Int) + n) - n)) (IntKind.i64.wrap ((p : Int) + n))) _) _
    rw [e2, e1, if_neg (by omega)]
    have hs : sub data (p : Int) ((p + n : Nat) : Int) = some ((data.drop p).take n) := by
      unfold sub
      rw [if_pos ⟨by omega, by omega, by omega⟩]
      congr 1
      show (data.take (p + n)).drop p = _
      rw [List.drop_take, show p + n - p = n by omega]
    exact Tot.bind0 hs (Tot.ret rfl)
theorem shr64 {x : Int} (k : Nat) (hk : k ≤ 64) : shrI .i64 x (k : Int) = x / 2 ^ k := by
  unfold shrI
  rw [show min ((k : Nat) : Int).toNat IntKind.i64.bits = k by show min ((k : Nat) : Int).toNat 64 = k; omega, Int.fdiv_eq_ediv_of_nonneg _ (Int.pow_nonneg (by decide))]
theorem wLE_take {l : List UInt8} {i : Nat} (h : i < l.length) : wLE (l.take (i + 1)) = wLE (l.take i) + 256 ^ i * (l[i]).toNat := by
  rw [List.take_succ_eq_append_getElem h, wLE_snoc, List.length_take, Nat.min_eq_left (by omega)]
theorem pow256 (k : Nat) : (256 : Nat) ^ k = 2 ^ (8 * k) := by rw [Nat.pow_mul]
theorem wLE_lt8 {l : List UInt8} {n : Nat} (h : l.length ≤ n) (hn : n ≤ 8) : wLE l < 2 ^ (8 * n) ∧ 2 ^ (8 * n) ≤ 18446744073709551616 := by
  have h1 := wLE_lt l
  have h2 : 256 ^ l.length ≤ 256 ^ n := Nat.pow_le_pow_right (by decide) h
  have h3 : 2 ^ (8 * n) ≤ 2 ^ (8 * 8) := Nat.pow_le_pow_right (by decide) (by omega)
  rw [pow256 n] at h2
  exact ⟨by omega, h3⟩
theorem lit_u64 (b : UInt8) : IntKind.u64.wrap ((b.toNat : Int)) = (b.toNat : Int) := by have := byte_lt b; rw [u64_wrap]; omega
/-- the word of n bytes, as the reader puts it together -/
theorem fixloop {b : List UInt8} {n : Nat} {big : Bool} (hb : b.length = n) (hn : n ≤ 8) :
    Tot (fun fuel => loopN (fun (s45 : (Int × Int)) => (if (decide (s45.2 < ((List.length b : Nat) : Int))) then (Option.bind (idx b s45.2) fun x60 => (Option.bind (if big then (Option.bind (some (IntKind.i64.wrap ((IntKind.i64.wrap ((n : Int) - 1)) - s45.2))) fun n65 => (some (n65))) else (some (s45.2))) fun (j62 : Int) => (Option.bind (nn (IntKind.i64.wrap (8 * j62))) fun _ => (Option.bind (some (bwOr .u64 s45.1 (shlI .u64 (IntKind.u64.wrap (((x60).toNat : Int))) (IntKind.i64.wrap (8 * j62))))) fun n75 => (some (.inl (n75, (IntKind.i64.wrap (s45.2 + 1))))))))) else (some (.inr (s45.1))))) fuel (0, 0)) (· = ((word big b : Nat) : Int)) := by
  cases big with
  | false =>
    refine Tot.loop (fun st => ∃ i : Nat, i ≤ n ∧ st = (((wLE (b.take i) : Nat) : Int), (i : Int))) (fun st => n - st.2.toNat) ⟨0, by omega, rfl⟩ fun st ⟨i, hi, e⟩ => ?_
    subst e
    refine Tot.ite (fun h => ?_) (fun h => Tot.ret ?_)
    · have h : (i : Int) < (b.length : Int) := of_decide_eq_true h
      have hib : i < b.length := by omega
      refine Tot.bind0 (idx_nat hib) (Tot.bindq (P := (· = (i : Int))) (Tot.if_ rfl (Tot.ret rfl)) fun j hj => ?_)
      subst hj
      have hc := byte_lt b[i]
      have e8 : IntKind.i64.wrap (8 * (i : Int)) = ((8 * i : Nat) : Int) := by rw [i64_small (by omega) (by omega)]; omega
      rw [e8, lit_u64, shl64 _ _ (by omega)]
      refine Tot.bind0 (a := ()) (by unfold nn; rw [if_pos (by omega)]) (Tot.some_bind (Tot.ret ?_))
      have hlt := wLE_lt8 (l := b.take i) (n := i) (by rw [List.length_take]; omega) (by omega)
      have hlt2 := wLE_lt8 (l := b.take (i + 1)) (n := i + 1) (by rw [List.length_take]; omega) (by omega)
      have hw := wLE_take hib
      rw [pow256] at hw
      have ew : ((b[i]).toNat : Int) * 2 ^ (8 * i) % 18446744073709551616 = ((2 ^ (8 * i) * (b[i]).toNat : Nat) : Int) := by
        rw [show ((b[i]).toNat : Int) * 2 ^ (8 * i) = ((2 ^ (8 * i) * (b[i]).toNat : Nat) : Int) by rw [Int.natCast_mul, Int.natCast_pow, Int.mul_comm]; rfl]
        omega
      rw [ew]
      have ho := (or64_add (x := (b[i]).toNat) (b := wLE (b.take i)) (k := 8 * i) hlt.1 (by omega)).2
      refine ⟨⟨i + 1, by omega, ?_⟩, ?_⟩
      · rw [ho, hw, i64_small (x := (i : Int) + 1) (by omega) (by omega)]
        rw [Nat.add_comm (wLE _)]; rfl
      · show n - (IntKind.i64.wrap ((i : Int) + 1)).toNat < n - ((i : Int)).toNat
        rw [i64_small (x := (i : Int) + 1) (by omega) (by omega)]; omega
    · have h : ¬ (i : Int) < (b.length : Int) := of_decide_eq_false h
      show ((wLE (b.take i) : Nat) : Int) = ((wLE b : Nat) : Int)
      rw [List.take_of_length_le (by omega)]
  | true =>
    refine Tot.loop (fun st => ∃ i : Nat, i ≤ n ∧ st = (((2 ^ (8 * (n - i)) * wLE (b.take i).reverse : Nat) : Int), (i : Int))) (fun st => n - st.2.toNat) ⟨0, by omega, by simp [wLE]⟩ fun st ⟨i, hi, e⟩ => ?_
    subst e
    refine Tot.ite (fun h => ?_) (fun h => Tot.ret ?_)
    · have h : (i : Int) < (b.length : Int) := of_decide_eq_true h
      have hib : i < b.length := by omega
      have e1 : IntKind.i64.wrap ((IntKind.i64.wrap ((n : Int) - 1)) - (i : Int)) = ((n - 1 - i : Nat) : Int) := by
        rw [i64_small (x := (n : Int) - 1) (by omega) (by omega), i64_small (by omega) (by omega)]; omega
      refine Tot.bind0 (idx_nat hib) (Tot.bindq (P := (· = ((n - 1 - i : Nat) : Int))) (Tot.it rfl (Tot.some_bind (Tot.ret e1))) fun j hj => ?_)
      subst hj
      have hc := byte_lt b[i]
      have e8 : IntKind.i64.wrap (8 * ((n - 1 - i : Nat) : Int)) = ((8 * (n - 1 - i) : Nat) : Int) := by rw [i64_small (by omega) (by omega)]; omega
      rw [e8, lit_u64, shl64 _ _ (by omega)]
      refine Tot.bind0 (a := ()) (by unfold nn; rw [if_pos (by omega)]) (Tot.some_bind (Tot.ret ?_))
      have hrev : (b.take (i + 1)).reverse = b[i] :: (b.take i).reverse := by rw [List.take_succ_eq_append_getElem hib, List.reverse_append]; rfl
      have hlt := wLE_lt8 (l := (b.take (i + 1)).reverse) (n := i + 1) (by rw [List.length_reverse, List.length_take]; omega) (by omega)
      rw [hrev] at hlt
      have hlt : (b[i]).toNat + 256 * wLE (b.take i).reverse < 2 ^ (8 * (i + 1)) := hlt.1
      obtain ⟨m, hm⟩ : ∃ m, n - i = m + 1 := ⟨n - 1 - i, by omega⟩
      have hm1 : n - 1 - i = m := by omega
      have hm2 : n - (i + 1) = m := by omega
      have hmi : m + (i + 1) = n := by omega
      rw [hm1, hm]
      obtain ⟨X, hX⟩ : ∃ X, wLE (b.take i).reverse = X := ⟨_, rfl⟩
      rw [hX] at hlt ⊢
      have hP : 2 ^ (8 * m) * 2 ^ (8 * (i + 1)) ≤ 18446744073709551616 := by
        rw [← Nat.pow_add, ← Nat.mul_add, hmi]
        exact Nat.le_trans (Nat.pow_le_pow_right (by decide) (show 8 * n ≤ 64 by omega)) (by decide)
      have hP2 : 2 ^ (8 * m) * ((b[i]).toNat + 256 * X + 1) ≤ 2 ^ (8 * m) * 2 ^ (8 * (i + 1)) := Nat.mul_le_mul_left _ hlt
      have hpos : 0 < 2 ^ (8 * m) := Nat.pow_pos (by decide)
      have hsum : 2 ^ (8 * m) * (b[i]).toNat + 2 ^ (8 * m) * (256 * X) + 2 ^ (8 * m) ≤ 18446744073709551616 := by
        rw [Nat.mul_add, Nat.mul_add, Nat.mul_one] at hP2
        omega
      have e256 : 2 ^ (8 * (m + 1)) * X = 2 ^ (8 * m) * (256 * X) := by rw [Nat.mul_add, Nat.pow_add, Nat.mul_assoc]
      have ew : ((b[i]).toNat : Int) * 2 ^ (8 * m) % 18446744073709551616 = ((2 ^ (8 * m) * (b[i]).toNat : Nat) : Int) := by
        rw [show ((b[i]).toNat : Int) * 2 ^ (8 * m) = ((2 ^ (8 * m) * (b[i]).toNat : Nat) : Int) by rw [Int.natCast_mul, Int.natCast_pow, Int.mul_comm]; rfl]
        omega
      rw [ew]
      have hck : 2 ^ (8 * m) * (b[i]).toNat < 2 ^ (8 * (m + 1)) := by
        rw [Nat.mul_add, Nat.pow_add]
        exact Nat.mul_lt_mul_of_pos_left hc hpos
      have ho := (or64_add (x := X) (b := 2 ^ (8 * m) * (b[i]).toNat) (k := 8 * (m + 1)) hck (by rw [e256]; omega)).1
      refine ⟨⟨i + 1, by omega, ?_⟩, ?_⟩
      · rw [hrev, hm2, ho, e256, i64_small (x := (i : Int) + 1) (by omega) (by omega), ← Nat.mul_add, Nat.add_comm (256 * X), ← hX]
        rfl
      · show n - (IntKind.i64.wrap ((i : Int) + 1)).toNat < n - ((i : Int)).toNat
        rw [i64_small (x := (i : Int) + 1) (by omega) (by omega)]; omega
    · have h : ¬ (i : Int) < (b.length : Int) := of_decide_eq_false h
      have hin : i = n := by omega
      subst hin
      show ((2 ^ (8 * (i - i)) * wLE (b.take i).reverse : Nat) : Int) = ((wLE b.reverse : Nat) : Int)
      rw [List.take_of_length_le (by omega), Nat.sub_self]
      simp
end Go.Gv.P
namespace Go.Gv.P
open Go Go.Gv Go.Gv.D Go.Gv.R
set_option maxRecDepth 100000
theorem and127 (b : UInt8) : bwAnd .u8 (b.toNat : Int) 127 = ((b.toNat % 128 : Nat) : Int) := by
  have := List.all_eq_true.1 (show (List.range 256).all (fun u => bwAnd .u8 (u : Int) 127 == ((u % 128 : Nat) : Int)) = true by kernel_rfl) b.toNat (List.mem_range.2 (byte_lt b))
  exact beq_iff_eq.1 this
theorem and64_1 {n : Nat} (h : n < 18446744073709551616) : bwAnd .u64 (n : Int) 1 = ((n % 2 : Nat) : Int) := by
  unfold bwAnd
  have h1 : (BitVec.ofInt 64 (n : Int) &&& BitVec.ofInt 64 1).toNat = n % 2 := by
    rw [BitVec.toNat_and]
    have e1 : (BitVec.ofInt 64 (n : Int)).toNat = n := by simp only [BitVec.toNat_ofInt]; omega
    rw [e1, show (BitVec.ofInt 64 1).toNat = 1 from rfl, Nat.and_one_is_mod]
  show IntKind.u64.wrap ((BitVec.ofInt 64 _ &&& BitVec.ofInt 64 1).toNat : Int) = _
  rw [h1, u64_wrap]
  omega
theorem i64_wrap_mid {x : Int} (h0 : 0 ≤ x) (h1 : x < 18446744073709551616) : IntKind.i64.wrap x = if x < 9223372036854775808 then x else x - 18446744073709551616 := by
  simp [IntKind.wrap, IntKind.signed, IntKind.bits]
  split <;> omega
theorem unzig_eq {n : Nat} (h : n < 18446744073709551616) : IntKind.i64.wrap (bwXor .u64 (((n : Nat) : Int).fdiv (2 ^ 1)) (IntKind.u64.wrap (0 - (bwAnd .u64 ((n : Nat) : Int) 1)))) = unzig n := by
  rw [and64_1 h, Int.fdiv_eq_ediv_of_nonneg _ (by decide), show ((n : Nat) : Int) / 2 ^ 1 = ((n / 2 : Nat) : Int) by omega]
  unfold unzig
  by_cases g : n % 2 = 1
  · rw [g, if_pos rfl, u64_wrap, show (0 - ((1 : Nat) : Int)) % 18446744073709551616 = 18446744073709551615 by rfl, xor_ones (by omega), i64_wrap_mid (by omega) (by omega), if_neg (by omega)]
    omega
  · rw [show n % 2 = 0 by omega, if_neg (by omega), u64_wrap, show (0 - ((0 : Nat) : Int)) % 18446744073709551616 = 0 by rfl, xor_none (by omega), i64_wrap_mid (by omega) (by omega), if_pos (by omega)]
theorem unzig_rng {n : Nat} (h : n < 18446744073709551616) : -9223372036854775808 ≤ unzig n ∧ unzig n ≤ 9223372036854775807 := by unfold unzig; split <;> omega
theorem drop_cons {α : Type} {l : List α} {i : Nat} (h : i < l.length) : l.drop i = l[i] :: l.drop (i + 1) := List.drop_eq_getElem_cons h
theorem vrd_cons (k : Nat) (b : UInt8) (t : List UInt8) : vrd k (b :: t) = if (k = 9 ∧ 1 < b.toNat) ∨ (0 < k ∧ b.toNat = 0) then (16, 0, 0) else if b.toNat < 128 then (0, b.toNat, 1) else
     if (vrd (k + 1) t).1 = 0 then (0, b.toNat % 128 + 128 * (vrd (k + 1) t).2.1, (vrd (k + 1) t).2.2 + 1) else ((vrd (k + 1) t).1, 0, 0) := rfl
theorem varied_gen {data : List UInt8} {p : Nat} (hl : data.length ≤ 1048576) (hp : p ≤ data.length) :
    Tot (fun fuel => packing_reader_varied fuel (data, (p : Int))) (fun r => r.2.1 = (vrd 0 (data.drop p)).1 ∧ (r.2.1 = 0 → r.1 = valOf (unzig (vrd 0 (data.drop p)).2.1) ∧ r.2.2.2 = ((p + (vrd 0 (data.drop p)).2.2 : Nat) : Int))) := by
  unfold packing_reader_varied
  generalize hD : vrd 0 (data.drop p) = D
  refine Tot.bindq (P := fun x => ∃ r, x = .inr r ∧ r.2.1 = D.1 ∧ (r.2.1 = 0 → r.1 = valOf (unzig D.2.1) ∧ r.2.2.2 = ((p + D.2.2 : Nat) : Int))) ?_ fun x ⟨r, hx, hQ⟩ => ?_
  · refine Tot.loop (fun st => ∃ k a : Nat, k ≤ 9 ∧ p + k ≤ data.length ∧ a < 2 ^ (7 * k) ∧ st.1 = (a : Int) ∧ st.2.1 = (k : Int) ∧ st.2.2.1.2 = ((p + k : Nat) : Int) ∧ D.1 = (vrd k (data.drop (p + k))).1 ∧ (D.1 = 0 → D.2.1 = a + 2 ^ (7 * k) * (vrd k (data.drop (p + k))).2.1 ∧ D.2.2 = k + (vrd k (data.drop (p + k))).2.2)) (fun st => 10 - st.2.1.toNat)
      ⟨0, 0, by omega, by omega, by decide, rfl, rfl, rfl, by rw [← hD]; rfl, fun _ => by rw [← hD]; constructor <;> simp⟩ fun st ⟨k, a, hk, hpk, ha, e0, e1, e2, hc, hv⟩ => ?_
    obtain ⟨acc, i, ⟨q1, q2⟩, v1, ⟨v2, v2'⟩, ⟨v3, v3'⟩, v4, v5⟩ := st
    simp only at e0 e1 e2
    subst e0 e1 e2
    refine Tot.bindq (take_gen (n := 1) hl hpk (by decide)) fun r hr => ?_
    subst hr
    by_cases hlt : p + k < data.length
    · rw [if_neg (show ¬ (data.drop (p + k)).length < 1 by rw [List.length_drop]; omega)]
      rw [drop_cons hlt] at hc hv ⊢
      have ht : List.take 1 (data[p + k] :: List.drop (p + k + 1) data) = [data[p + k]] := rfl
      rw [ht]
      generalize data[p + k] = b at *
      have hb := byte_lt b
      have hi0 : idx [b] 0 = some b := rfl
      refine Tot.if_ rfl ?_
      rw [vrd_cons] at hc hv
      refine Tot.bindq (P := (· = decide ((k = 9 ∧ 1 < b.toNat) ∨ (0 < k ∧ b.toNat = 0)))) ?_ fun j hj => ?_
      · have second : Tot (fun n => if (decide (((k : Nat) : Int) > 0)) = true then (Option.bind (idx [b] 0) fun x82 => (some ((((x82).toNat : Int) == 0)))) else (some (false))) (· = decide (0 < k ∧ b.toNat = 0)) := by
          refine Tot.ite (fun h => Tot.bind0 hi0 (Tot.ret ?_)) (fun h => Tot.ret ?_)
          · have h : ((k : Nat) : Int) > 0 := of_decide_eq_true h
            rw [Bool.eq_iff_iff, beq_iff_eq, decide_eq_true_iff]; omega
          · have h : ¬ ((k : Nat) : Int) > 0 := of_decide_eq_false h
            exact (decide_eq_false (by omega)).symm
        refine Tot.ite (fun h => Tot.bind0 hi0 ?_) (fun h => second.mono fun r hr => ?_)
        · have h : ((k : Nat) : Int) = 9 := beq_iff_eq.1 h
          refine Tot.ite (fun h2 => Tot.ret ?_) (fun h2 => second.mono fun r hr => ?_)
          · have h2 : ((b.toNat : Nat) : Int) > 1 := of_decide_eq_true h2
            exact (decide_eq_true (by omega)).symm
          · have h2 : ¬ ((b.toNat : Nat) : Int) > 1 := of_decide_eq_false h2
            rw [hr, decide_eq_decide]; omega
        · have h : ¬ ((k : Nat) : Int) = 9 := beq_eq_false_iff_ne.1 h
          rw [hr, decide_eq_decide]; omega
      subst hj
      by_cases hbad : (k = 9 ∧ 1 < b.toNat) ∨ (0 < k ∧ b.toNat = 0)
      · rw [if_pos hbad] at hc
        refine Tot.it (decide_eq_true hbad) (Tot.ret ⟨_, rfl, hc.symm, fun h => ?_⟩)
        exact absurd h (by show ¬ (16 : Int) = 0; decide)
      rw [if_neg hbad] at hc hv
      refine Tot.if_ (decide_eq_false hbad) (Tot.bind0 hi0 ?_)
      have e7 : IntKind.i64.wrap (7 * ((k : Nat) : Int)) = ((7 * k : Nat) : Int) := by rw [i64_small (by omega) (by omega)]; omega
      rw [e7]
      refine Tot.bind0 (a := ()) (by unfold nn; rw [if_pos (by omega)]) ?_
      have h9 : k = 9 → b.toNat ≤ 1 := fun e => by omega
      have hmul : 2 ^ (7 * k) * (b.toNat % 128) + 2 ^ (7 * k) ≤ 18446744073709551616 := by
        by_cases e : k = 9
        · subst e
          have := h9 rfl
          have : b.toNat % 128 ≤ 1 := by omega
          have : 2 ^ (7 * 9) * (b.toNat % 128) ≤ 2 ^ (7 * 9) * 1 := Nat.mul_le_mul_left _ this
          omega
        · have : 2 ^ (7 * k) ≤ 2 ^ (7 * 8) := Nat.pow_le_pow_right (by decide) (by omega)
          have h3 : 2 ^ (7 * k) * (b.toNat % 128 + 1) ≤ 2 ^ (7 * 8) * 128 := Nat.mul_le_mul this (by omega)
          rw [Nat.mul_add, Nat.mul_one] at h3
          omega
      have ew : shlI .u64 (IntKind.u64.wrap (bwAnd .u8 (b.toNat : Int) 127)) ((7 * k : Nat) : Int) = ((2 ^ (7 * k) * (b.toNat % 128) : Nat) : Int) := by
        rw [and127, u64_wrap, shl64 _ _ (by omega), show ((b.toNat % 128 : Nat) : Int) % 18446744073709551616 = ((b.toNat % 128 : Nat) : Int) by omega]
        rw [show ((b.toNat % 128 : Nat) : Int) * 2 ^ (7 * k) = ((2 ^ (7 * k) * (b.toNat % 128) : Nat) : Int) by rw [Int.natCast_mul, Int.natCast_pow, Int.mul_comm]; rfl]
        omega
      rw [ew]
      rw [(or64_add (x := b.toNat % 128) (b := a) (k := 7 * k) ha (by omega)).2]
      refine Tot.some_bind (Tot.bind0 hi0 (Tot.ite (fun h => ?_) (fun h => Tot.ret ?_)))
      · have h : ((b.toNat : Nat) : Int) < 128 := of_decide_eq_true h
        rw [if_pos (by omega)] at hc hv
        obtain ⟨g1, g2⟩ := hv hc
        have hn : 2 ^ (7 * k) * (b.toNat % 128) + a < 18446744073709551616 := by omega
        rw [unzig_eq hn]
        refine Tot.bindq (whole_tot (unzig_rng hn).1 (unzig_rng hn).2) fun r hr => Tot.ret ⟨_, rfl, hc.symm, fun _ => ?_⟩
        subst hr
        refine ⟨?_, ?_⟩
        · show valOf _ = _
          rw [g1]
          congr 2
          show _ = a + 2 ^ (7 * k) * b.toNat
          rw [Nat.mod_eq_of_lt (by omega), Nat.add_comm]
        · show ((p + k + 1 : Nat) : Int) = _
          rw [g2]; rfl
      · have h : ¬ ((b.toNat : Nat) : Int) < 128 := of_decide_eq_false h
        rw [if_neg (by omega)] at hc hv
        have hk9 : k ≠ 9 := fun e => by have := h9 e; omega
        have e1 : IntKind.i64.wrap ((k : Int) + 1) = ((k + 1 : Nat) : Int) := by rw [i64_small (by omega) (by omega)]; omega
        rw [e1]
        refine ⟨⟨k + 1, 2 ^ (7 * k) * (b.toNat % 128) + a, by omega, by omega, ?_, rfl, rfl, rfl, ?_, fun h0 => ?_⟩, by show 10 - (((k + 1 : Nat) : Int)).toNat < 10 - ((k : Int)).toNat; omega⟩
        · rw [show 7 * (k + 1) = 7 * k + 7 by omega, Nat.pow_add]
          have : 2 ^ (7 * k) * (b.toNat % 128 + 1) ≤ 2 ^ (7 * k) * 2 ^ 7 := Nat.mul_le_mul_left _ (by omega)
          rw [Nat.mul_add, Nat.mul_one] at this
          omega
        · show D.1 = (vrd (k + 1) (List.drop (p + k + 1) data)).1
          by_cases h3 : (vrd (k + 1) (List.drop (p + k + 1) data)).1 = 0
          · rw [if_pos h3] at hc; rw [hc, h3]
          · rw [if_neg h3] at hc; rw [hc]
        · obtain ⟨g1, g2⟩ := hv h0
          by_cases h3 : (vrd (k + 1) (List.drop (p + k + 1) data)).1 = 0
          · rw [if_pos h3] at g1 g2
            refine ⟨?_, ?_⟩
            · rw [g1]
              show a + 2 ^ (7 * k) * (b.toNat % 128 + 128 * (vrd (k + 1) (List.drop (p + k + 1) data)).2.1) = _
              rw [show 7 * (k + 1) = 7 * k + 7 by omega, Nat.pow_add, Nat.mul_add, Nat.mul_assoc]
              show _ = _ + 2 ^ (7 * k) * (128 * (vrd (k + 1) (List.drop (p + k + 1) data)).2.1)
              omega
            · rw [g2]
              show k + ((vrd (k + 1) (List.drop (p + k + 1) data)).2.2 + 1) = k + 1 + (vrd (k + 1) (List.drop (p + (k + 1)) data)).2.2
              rw [show p + (k + 1) = p + k + 1 by omega]
              omega
          · rw [if_neg h3] at hc
            rw [hc] at h0
            exact absurd h0 h3
    · rw [if_pos (show (data.drop (p + k)).length < 1 by rw [List.length_drop]; omega)]
      have hnil : data.drop (p + k) = [] := List.drop_of_length_le (by omega)
      rw [hnil] at hc
      refine Tot.it rfl (Tot.ret ⟨_, rfl, hc.symm, fun h => ?_⟩)
      exact absurd h (by show ¬ (15 : Int) = 0; decide)
  · subst hx
    exact Tot.contr hQ
theorem sgn_eq {n u : Nat} (hn : n = 1 ∨ n = 2 ∨ n = 4 ∨ n = 8) (hu : u < 2 ^ (8 * n)) : shrI .i64 (IntKind.i64.wrap (shlI .u64 (u : Int) ((64 - 8 * n : Nat) : Int))) ((64 - 8 * n : Nat) : Int) = sgn true n u := by
  rw [shr64 _ (by omega), shl64 _ _ (by omega)]
  unfold sgn
  rcases hn with e | e | e | e <;> subst e <;> simp only [Nat.reduceMul, Nat.reduceSub, Nat.reducePow, true_and] at hu ⊢
  all_goals
    rw [i64_wrap_mid (by omega) (by omega)]
    split <;> split <;> omega
theorem sgn_rng {s : Bool} {n u : Nat} (hn : n = 1 ∨ n = 2 ∨ n = 4 ∨ n = 8) (hu : u < 2 ^ (8 * n)) : -9223372036854775808 ≤ sgn s n u ∧ sgn s n u ≤ 18446744073709551615 := by
  unfold sgn
  rcases hn with e | e | e | e <;> subst e <;> simp only [Nat.reduceMul, Nat.reduceSub, Nat.reducePow, true_and] at hu ⊢ <;> split <;> omega
theorem fixed_gen {data : List UInt8} {p n : Nat} {x : Fld} {s : Bool} (hl : data.length ≤ 1048576) (hp : p ≤ data.length) (hn : n = 1 ∨ n = 2 ∨ n = 4 ∨ n = 8) :
    Tot (fun fuel => packing_reader_fixed fuel (data, (p : Int)) x (n : Int) s) (fun r => if (data.drop p).length < n then r.2.1 = 15 else r = (valOf (sgn s n (word x.2.2 ((data.drop p).take n))), 0, (data, ((p + n : Nat) : Int)))) := by
  unfold packing_reader_fixed
  refine Tot.bindq (take_gen (n := n) hl hp (by omega)) fun r hr => ?_
  subst hr
  by_cases h : (data.drop p).length < n
  · rw [if_pos h]
    refine Tot.it rfl (Tot.ret ?_)
    rw [if_pos h]
  · rw [if_neg h]
    refine Tot.if_ rfl ?_
    have hbl : ((data.drop p).take n).length = n := by rw [List.length_take]; omega
    refine Tot.bindq (fixloop (big := x.2.2) hbl (by omega)) fun j hj => ?_
    subst hj
    have hu : word x.2.2 ((data.drop p).take n) < 2 ^ (8 * n) := by
      unfold word
      refine (wLE_lt8 (n := n) ?_ (by omega)).1
      split
      · rw [List.length_reverse]; omega
      · omega
    generalize word x.2.2 ((data.drop p).take n) = u at hu
    have hu8 : u < 18446744073709551616 := Nat.lt_of_lt_of_le hu (Nat.le_trans (Nat.pow_le_pow_right (by decide) (show 8 * n ≤ 64 by omega)) (by decide))
    cases s with
    | true =>
      refine Tot.it rfl ?_
      have e8 : IntKind.i64.wrap (64 - IntKind.i64.wrap (8 * (n : Int))) = ((64 - 8 * n : Nat) : Int) := by
        rw [i64_small (x := 8 * (n : Int)) (by omega) (by omega), i64_small (by omega) (by omega)]; omega
      rw [e8]
      refine Tot.bind0 (a := ()) (by unfold nn; rw [if_pos (by omega)]) (Tot.bind0 (a := ()) (by unfold nn; rw [if_pos (by omega)]) ?_)
      rw [sgn_eq hn hu]
      have hr := sgn_rng (s := true) hn hu
      have hr2 : sgn true n u ≤ 9223372036854775807 := by
        unfold sgn
        rcases hn with e | e | e | e <;> subst e <;> simp only [Nat.reduceMul, Nat.reduceSub, Nat.reducePow, true_and] at hu ⊢ <;> split <;> omega
      refine Tot.bindq (whole_tot hr.1 hr2) fun r hr => Tot.ret ?_
      subst hr
      rw [if_neg h]
    | false =>
      refine Tot.if_ rfl (Tot.bindq (natural_tot hu8) fun r hr => Tot.ret ?_)
      subst hr
      rw [if_neg h]
      have : sgn false n u = (u : Int) := by unfold sgn; rw [if_neg (fun e => by cases e.1)]
      rw [this]
end Go.Gv.P
namespace Go.Gv.P
open Go Go.Gv Go.Gv.D Go.Gv.R
set_option maxRecDepth 100000
theorem trim0 (l : List UInt8) : Lib.trimS l [0] = [] ↔ ∀ b ∈ l, b.toNat = 0 := by
  have hp : ∀ b : UInt8, ([0] : List UInt8).contains b = true ↔ b.toNat = 0 := fun b => by
    rw [Lib.contains_one, beq_iff_eq]
    exact ⟨fun h => by rw [h]; rfl, fun h => UInt8.toNat_inj.1 h⟩
  have hd : ∀ m : List UInt8, m.dropWhile (([0] : List UInt8).contains ·) = [] ↔ ∀ b ∈ m, b.toNat = 0 := fun m => by
    induction m with
    | nil => simp
    | cons c m ih =>
      rw [List.dropWhile_cons]
      by_cases h : ([0] : List UInt8).contains c = true
      · rw [if_pos h, ih]
        exact ⟨fun g b hb => (List.mem_cons.1 hb).elim (fun e => by rw [e]; exact (hp c).1 h) (g b), fun g b hb => g b (List.mem_cons_of_mem _ hb)⟩
      · rw [if_neg h]
        exact ⟨fun g => (by cases g), fun g => absurd ((hp c).2 (g c (List.mem_cons_self ..))) h⟩
  unfold Lib.trimS Lib.trimLeftS
  rw [hd]
  unfold Lib.trimRightS
  constructor
  · intro h b hb
    have e := List.takeWhile_append_dropWhile (p := (([0] : List UInt8).contains ·)) (l := l.reverse)
    have hb2 : b ∈ l.reverse := List.mem_reverse.2 hb
    rw [← e] at hb2
    rcases List.mem_append.1 hb2 with g | g
    · have : ∀ (m : List UInt8), ∀ b ∈ m.takeWhile (([0] : List UInt8).contains ·), ([0] : List UInt8).contains b = true := by
        intro m
        induction m with
        | nil => intro b hb; cases hb
        | cons c m ih =>
          intro b hb
          rw [List.takeWhile_cons] at hb
          split at hb
          · rename_i hc
            rcases List.mem_cons.1 hb with e | e
            · rw [e]; exact hc
            · exact ih b e
          · cases hb
      exact (hp b).1 (this _ b g)
    · exact h b (List.mem_reverse.2 g)
  · intro h b hb
    have : b ∈ l.reverse := (List.dropWhile_sublist _).subset (List.mem_reverse.1 hb)
    exact h b (List.mem_reverse.1 this)
theorem wid_cases (c : Nat) : wid c = 0 ∨ wid c = 1 ∨ wid c = 2 ∨ wid c = 4 ∨ wid c = 8 := by
  unfold wid
  repeat (first | split | simp)
theorem kindsF {x : Fld} {b : Bool} (hg : good b x) (ho : okF x) : x.1 = ((x.1.toNat : Nat) : Int) ∧ x.1.toNat < 256 ∧ x.1.toNat ≠ 0 ∧
    ((0 < wid x.1.toNat ∧ x.1.toNat ≠ 118 ∧ x.1.toNat ≠ 112 ∧ x.1.toNat ≠ 115 ∧ x.1.toNat ≠ 120 ∧ x.1.toNat ≠ 63 ∧ x.2.1 = 1) ∨
     (¬ 0 < wid x.1.toNat ∧ ((x.1.toNat = 118 ∧ x.2.1 = 1) ∨ (x.1.toNat = 112 ∧ x.2.1 = 1) ∨ (x.1.toNat = 63 ∧ x.2.1 = 1) ∨ ((x.1.toNat = 115 ∨ x.1.toNat = 120) ∧ 0 ≤ x.2.1 ∧ x.2.1 ≤ 100)))) := by
  have h0 := ho.1
  have h1 := ho.2
  obtain ⟨g1, g2, g3⟩ := hg
  have hc : x.1.toNat < 256 := by omega
  unfold bad5 at g1
  rw [Bool.or_eq_false_iff] at g1
  have hz : ¬ x.1 = 0 := beq_eq_false_iff_ne.1 g1.1
  have hi : isC x.1.toNat = true := by simpa using g1.2
  refine ⟨by omega, hc, by omega, ?_⟩
  have hk := kinds _ hc hi
  unfold bad4 at g2
  generalize x.1.toNat = c at *
  have hcnt : cnt c = true ↔ c = 115 ∨ c = 120 := by unfold cnt; simp
  rcases hk with ⟨k1, k2, k3, k4, k5⟩ | ⟨k1, k2⟩
  · rw [k4, if_neg (by decide)] at g2
    have : ¬ (c = 115 ∨ c = 120) := fun e => by rw [hcnt.2 e] at k4; cases k4
    exact .inl ⟨k1, k2, k3, by omega, by omega, k5, by simpa using g2⟩
  · refine .inr ⟨k1, ?_⟩
    by_cases hs : cnt c = true
    · rw [hs, if_pos rfl, Bool.or_eq_false_iff] at g2
      have a1 : ¬ x.2.1 < 0 := of_decide_eq_false g2.1
      have a2 : ¬ x.2.1 > 100 := of_decide_eq_false g2.2
      exact .inr (.inr (.inr ⟨hcnt.1 hs, by omega, by omega⟩))
    · have hs' : cnt c = false := by cases h : cnt c with | true => exact absurd h hs | false => rfl
      rw [hs', if_neg (by decide)] at g2
      have e1 : x.2.1 = 1 := by simpa using g2
      rcases k2 with e | e | e | e
      · exact .inl ⟨e, e1⟩
      · exact .inr (.inl ⟨e, e1⟩)
      · exact absurd e hs
      · exact .inr (.inr (.inl ⟨e, e1⟩))
theorem rdF_wid {x : Fld} (h : 0 < wid x.1.toNat) (d : List UInt8) : rdF x d = if d.length < (wid x.1.toNat).toNat then (15, zv, 0) else (0, valOf (sgn (decide (97 ≤ x.1.toNat)) (wid x.1.toNat).toNat (word x.2.2 (d.take (wid x.1.toNat).toNat))), (wid x.1.toNat).toNat) := by unfold rdF; rw [if_pos h]
theorem rdF_118 {x : Fld} (h : ¬ 0 < wid x.1.toNat) (e : x.1.toNat = 118) (d : List UInt8) : rdF x d = if (vrd 0 d).1 = 0 then (0, valOf (unzig (vrd 0 d).2.1), (vrd 0 d).2.2) else ((vrd 0 d).1, zv, 0) := by unfold rdF; rw [if_neg h, if_pos e]
theorem rdF_63 {x : Fld} (h : ¬ 0 < wid x.1.toNat) (e : x.1.toNat = 63) (d : List UInt8) : rdF x d = match d with | [] => (15, zv, 0) | b :: _ => if 1 < b.toNat then (16, zv, 0) else (0, (1, (false, []), (false, []), strOf [], (b.toNat : Int)), 1) := by unfold rdF; rw [if_neg h, if_neg (by omega), if_pos e]; try (cases d <;> rfl)
theorem rdF_112 {x : Fld} (h : ¬ 0 < wid x.1.toNat) (e : x.1.toNat = 112) (d : List UInt8) : rdF x d = match d with | [] => (15, zv, 0) | b :: t => if t.length < b.toNat then (15, zv, 0) else (0, txt (t.take b.toNat), b.toNat + 1) := by unfold rdF; rw [if_neg h, if_neg (by omega), if_neg (by omega), if_pos e]; try (cases d <;> rfl)
theorem rdF_sx {x : Fld} (h : ¬ 0 < wid x.1.toNat) (e : x.1.toNat = 115 ∨ x.1.toNat = 120) (d : List UInt8) : rdF x d = if d.length < x.2.1.toNat then (15, zv, 0) else if x.1.toNat = 120 ∧ ∃ b ∈ d.take x.2.1.toNat, b.toNat ≠ 0 then (16, zv, 0) else (0, txt (d.take x.2.1.toNat), x.2.1.toNat) := by unfold rdF; rw [if_neg h, if_neg (by omega), if_neg (by omega), if_neg (by omega)]
theorem rdF_len {x : Fld} {b : Bool} (hg : good b x) (ho : okF x) {d : List UInt8} (h : (rdF x d).1 = 0) : (rdF x d).2.2 ≤ d.length := by
  obtain ⟨h1, h2, h3, hk⟩ := kindsF hg ho
  rcases hk with ⟨k1, _⟩ | ⟨k1, (⟨e, _⟩ | ⟨e, _⟩ | ⟨e, _⟩ | ⟨e, _, _⟩)⟩
  · rw [rdF_wid k1] at h ⊢
    split at h
    · cases h
    · rename_i g; rw [if_neg g]; show (wid _).toNat ≤ _; omega
  · rw [rdF_118 k1 e] at h ⊢
    split at h
    · rename_i g; rw [if_pos g]; exact (vrd_len _ _ g).2
    · rename_i g; exact absurd h g
  · rw [rdF_112 k1 e] at h ⊢
    cases d with
    | nil => cases h
    | cons c t =>
      simp only at h ⊢
      split at h
      · cases h
      · rename_i g; rw [if_neg g]; show c.toNat + 1 ≤ t.length + 1; omega
  · rw [rdF_63 k1 e] at h ⊢
    cases d with
    | nil => cases h
    | cons c t =>
      simp only at h ⊢
      split at h
      · cases h
      · rename_i g; rw [if_neg g]; show 1 ≤ t.length + 1; omega
  · rw [rdF_sx k1 e] at h ⊢
    split at h
    · cases h
    · rename_i g
      rw [if_neg g]
      split at h
      · cases h
      · rename_i g2; rw [if_neg g2]; show x.2.1.toNat ≤ _; omega
theorem value_gen {data : List UInt8} {p : Nat} {x : Fld} {b : Bool} (hl : data.length ≤ 1048576) (hp : p ≤ data.length) (hg : good b x) (ho : okF x) :
    Tot (fun fuel => packing_reader_value fuel (data, (p : Int)) x) (fun r => r.2.1 = (rdF x (data.drop p)).1 ∧ (r.2.1 = 0 → r.1 = (rdF x (data.drop p)).2.1 ∧ r.2.2.2 = ((p + (rdF x (data.drop p)).2.2 : Nat) : Int))) := by
  obtain ⟨h1, h2, h3, hk⟩ := kindsF hg ho
  unfold packing_reader_value
  have hw : Tot (fun n => packing_width n x.1) (· = (wid x.1.toNat, decide (97 ≤ x.1.toNat))) := by
    have := width_tot h2
    rwa [← h1] at this
  refine Tot.bindq hw fun r hr => ?_
  subst hr
  rcases hk with ⟨k1, _⟩ | ⟨k1, hk⟩
  · refine Tot.it (decide_eq_true k1) ?_
    have hn : (wid x.1.toNat).toNat = 1 ∨ (wid x.1.toNat).toNat = 2 ∨ (wid x.1.toNat).toNat = 4 ∨ (wid x.1.toNat).toNat = 8 := by
      rcases wid_cases x.1.toNat with e | e | e | e | e <;> rw [e] at k1 ⊢ <;> simp at k1 ⊢
    have hf := fixed_gen (x := (x.1, x.2.1, x.2.2)) (s := decide (97 ≤ x.1.toNat)) hl hp hn
    rw [Int.toNat_of_nonneg (by omega)] at hf
    refine Tot.bindq hf fun r hr => Tot.ret ?_
    rw [rdF_wid k1]
    by_cases h : (data.drop p).length < (wid x.1.toNat).toNat
    · rw [if_pos h] at hr ⊢
      exact ⟨hr, fun e => by have e : r.2.1 = 0 := e; rw [hr] at e; cases e⟩
    · rw [if_neg h] at hr ⊢
      subst hr
      exact ⟨rfl, fun _ => ⟨rfl, rfl⟩⟩
  · refine Tot.if_ (decide_eq_false k1) ?_
    rcases hk with ⟨e, _⟩ | ⟨e, _⟩ | ⟨e, _⟩ | ⟨e, hc0, hc1⟩
    · refine Tot.it (beq_iff_eq.2 (by omega)) (Tot.bindq (varied_gen hl hp) fun r ⟨hr1, hr2⟩ => Tot.ret ?_)
      rw [rdF_118 k1 e]
      by_cases h : (vrd 0 (data.drop p)).1 = 0
      · rw [if_pos h]
        obtain ⟨a1, a2⟩ := hr2 (by rw [hr1, h])
        exact ⟨by show r.2.1 = 0; rw [hr1, h], fun _ => ⟨a1, a2⟩⟩
      · rw [if_neg h]
        exact ⟨hr1, fun e => absurd (hr1.symm.trans e) h⟩
    · -- p
      refine Tot.if_ (beq_eq_false_iff_ne.2 (by omega)) (Tot.if_ (beq_eq_false_iff_ne.2 (by omega)) ?_)
      rw [rdF_112 k1 e]
      refine Tot.bindq (P := fun z => if p < data.length then ∃ c, data[p]? = some c ∧ z = .inl ((data, ((p + 1 : Nat) : Int)), (x.1, (c.toNat : Int), x.2.2), zv) else ∃ y, z = .inr y ∧ y.2.1 = 15) (Tot.it (beq_iff_eq.2 (by omega)) (Tot.bindq (take_gen (n := 1) hl hp (by decide)) fun r hr => ?_)) fun z hz => ?_
      · subst hr
        by_cases h : p < data.length
        · rw [if_neg (show ¬ (data.drop p).length < 1 by rw [List.length_drop]; omega)]
          refine Tot.if_ rfl ?_
          have ht : List.take 1 (List.drop p data) = [data[p]] := by rw [drop_cons h]; rfl
          rw [ht]
          refine Tot.bind0 (a := data[p]) rfl (Tot.ret ?_)
          rw [if_pos h]
          have hb := byte_lt data[p]
          refine ⟨data[p], List.getElem?_eq_getElem h, ?_⟩
          rw [i64_small (by omega) (by omega)]
          rfl
        · rw [if_pos (show (data.drop p).length < 1 by rw [List.length_drop]; omega)]
          refine Tot.it rfl (Tot.ret ?_)
          rw [if_neg h]
          exact ⟨_, rfl, rfl⟩
      by_cases h : p < data.length
      · rw [if_pos h] at hz
        obtain ⟨c, hc, hz⟩ := hz
        subst hz
        have hb := byte_lt c
        rw [drop_cons h]
        have ec : data[p] = c := by rw [List.getElem?_eq_getElem h] at hc; exact Option.some.inj hc
        rw [ec]
        refine Tot.contl ?_
        refine Tot.bindq (take_gen (data := data) (p := p + 1) (n := c.toNat) hl (by omega) (by omega)) fun r hr => ?_
        subst hr
        simp only
        by_cases hlt : (data.drop (p + 1)).length < c.toNat
        · rw [if_pos hlt, if_pos hlt]
          refine Tot.it rfl (Tot.ret ⟨rfl, fun e => ?_⟩)
          exact absurd e (by show ¬ (15 : Int) = 0; decide)
        · rw [if_neg hlt, if_neg hlt]
          refine Tot.if_ rfl (Tot.bindq (P := (· = false)) (Tot.if_ (beq_eq_false_iff_ne.2 (by show ¬ x.1 = 120; omega)) (Tot.ret rfl)) fun j hj => ?_)
          subst hj
          refine Tot.if_ rfl (Tot.ret ⟨rfl, fun _ => ⟨rfl, ?_⟩⟩)
          show ((p + 1 + c.toNat : Nat) : Int) = ((p + (c.toNat + 1) : Nat) : Int)
          omega
      · rw [if_neg h] at hz
        obtain ⟨y, hz, hy⟩ := hz
        subst hz
        have hnil : data.drop p = [] := List.drop_of_length_le (by omega)
        rw [hnil]
        exact Tot.contr ⟨hy, fun e => by rw [hy] at e; cases e⟩
    · -- ?
      refine Tot.if_ (beq_eq_false_iff_ne.2 (by omega)) (Tot.it (beq_iff_eq.2 (by omega)) ?_)
      rw [rdF_63 k1 e]
      refine Tot.bindq (take_gen (n := 1) hl hp (by decide)) fun r hr => ?_
      subst hr
      by_cases h : p < data.length
      · rw [if_neg (show ¬ (data.drop p).length < 1 by rw [List.length_drop]; omega), drop_cons h]
        have ht : List.take 1 (data[p] :: List.drop (p + 1) data) = [data[p]] := rfl
        rw [ht]
        generalize data[p] = c
        have hb := byte_lt c
        refine Tot.if_ rfl (Tot.bind0 (a := c) rfl (Tot.ite (fun h => Tot.ret ?_) (fun h => Tot.bind0 (a := c) rfl (Tot.ret ?_))))
        · have h : ((c.toNat : Nat) : Int) > 1 := of_decide_eq_true h
          simp only
          rw [if_pos (by omega)]
          exact ⟨rfl, fun e => absurd e (by show ¬ (16 : Int) = 0; decide)⟩
        · have h : ¬ ((c.toNat : Nat) : Int) > 1 := of_decide_eq_false h
          simp only
          rw [if_neg (by omega), i64_small (x := (c.toNat : Int)) (by omega) (by omega)]
          exact ⟨rfl, fun _ => ⟨rfl, rfl⟩⟩
      · rw [if_pos (show (data.drop p).length < 1 by rw [List.length_drop]; omega)]
        have hnil : data.drop p = [] := List.drop_of_length_le (by omega)
        rw [hnil]
        refine Tot.it rfl (Tot.ret ⟨rfl, fun e => ?_⟩)
        exact absurd e (by show ¬ (15 : Int) = 0; decide)
    · -- s, x
      refine Tot.if_ (beq_eq_false_iff_ne.2 (by omega)) (Tot.if_ (beq_eq_false_iff_ne.2 (by omega)) ?_)
      rw [rdF_sx k1 e]
      refine Tot.bindq (P := (· = .inl ((data, (p : Int)), (x.1, x.2.1, x.2.2), zv))) (Tot.if_ (beq_eq_false_iff_ne.2 (by omega)) (Tot.ret rfl)) fun z hz => ?_
      subst hz
      refine Tot.contl ?_
      have hk2 : x.2.1 = ((x.2.1.toNat : Nat) : Int) := by omega
      have ht := take_gen (p := p) (n := x.2.1.toNat) hl hp (by omega)
      rw [← hk2] at ht
      refine Tot.bindq ht fun r hr => ?_
      subst hr
      simp only
      by_cases hlt : (data.drop p).length < x.2.1.toNat
      · rw [if_pos hlt, if_pos hlt]
        refine Tot.it rfl (Tot.ret ⟨rfl, fun e => ?_⟩)
        exact absurd e (by show ¬ (15 : Int) = 0; decide)
      · rw [if_neg hlt, if_neg hlt]
        refine Tot.if_ rfl ?_
        have hpl : ((data.drop p).take x.2.1.toNat).length ≤ 100 := by rw [List.length_take]; omega
        generalize (data.drop p).take x.2.1.toNat = part at hpl
        refine Tot.bindq (P := (· = decide (x.1.toNat = 120 ∧ ∃ b ∈ part, b.toNat ≠ 0))) (Tot.ite (fun h => ?_) (fun h => Tot.ret ?_)) fun j hj => ?_
        · have h : x.1 = 120 := beq_iff_eq.1 h
          have htr : ∀ n, strings_Trim n (strOf part) (strOf [0]) = some (strOf (Lib.trimS part [0])) := fun n => by
            unfold strings_Trim
            rw [if_pos ⟨by rw [size_str]; omega, by rw [size_str]; decide, by kernel_rfl⟩, bytes_str, bytes_str]
          refine Tot.bindq (P := (· = strOf (Lib.trimS part [0]))) ⟨_, rfl, 0, fun n _ => htr n⟩ fun r hr => Tot.ret ?_
          subst hr
          rw [toList_bytes, toList_bytes, bytes_str, bytes_str, Bool.eq_iff_iff, decide_eq_true_iff, Bool.not_eq_true', beq_eq_false_iff_ne]
          rw [Ne, trim0]
          constructor
          · intro g
            refine ⟨by omega, ?_⟩
            apply Classical.byContradiction
            intro g2
            exact g fun b hb => Classical.byContradiction fun g3 => g2 ⟨b, hb, g3⟩
          · rintro ⟨_, b, hb, g⟩ g2
            exact g (g2 b hb)
        · have h : ¬ x.1 = 120 := beq_eq_false_iff_ne.1 h
          exact (decide_eq_false (fun g => by omega)).symm
        subst hj
        by_cases hc : x.1.toNat = 120 ∧ ∃ b ∈ part, b.toNat ≠ 0
        · rw [if_pos hc]
          refine Tot.it (decide_eq_true hc) (Tot.ret ⟨rfl, fun e => ?_⟩)
          exact absurd e (by show ¬ (16 : Int) = 0; decide)
        · rw [if_neg hc]
          refine Tot.if_ (decide_eq_false hc) (Tot.ret ⟨rfl, fun _ => ⟨rfl, rfl⟩⟩)
end Go.Gv.P
namespace Go.Gv.P
open Go Go.Gv Go.Gv.D Go.Gv.R
set_option maxRecDepth 100000
theorem unp_cons (x : Fld) (l : List Fld) (i : Nat) (d : List UInt8) (out : List Val) : unp (x :: l) i d out = if (rdF x d).1 ≠ 0 then ([], ((rdF x d).1, (i : Int))) else unp l (i + 1) (d.drop (rdF x d).2.2) (if x.1 ≠ 120 then out ++ [(rdF x d).2.1] else out) := rfl
theorem unp_nil (i : Nat) (d : List UInt8) (out : List Val) : unp [] i d out = if d ≠ [] then ([], (3, -2)) else (out, (0, 0)) := rfl
theorem Unpack_gen {l : List Fld} {data : List UInt8} (hl : l.length ≤ 1048576) (ho : ∀ x ∈ l, okF x) (hd : data.length ≤ 1048576) :
    Tot (fun fuel => packing_Unpack fuel l data) (· = if (check l).1 ≠ 0 then ([], check l) else unp l 0 data []) := by
  unfold packing_Unpack
  refine Tot.bindq (Check_tot hl ho) fun r hr => ?_
  subst hr
  refine Tot.ite (fun h => Tot.ret ?_) (fun h => ?_)
  · have h : (check l).1 ≠ 0 := by simpa using h
    rw [if_pos h]
  have h : (check l).1 = 0 := by simpa using h
  rw [if_neg (by omega)]
  have hgood := (check_zero h).2
  generalize hU : unp l 0 data [] = U
  refine Tot.bindq (P := fun x => x = .inr U ∨ ∃ p : Nat, ∃ out : List Val, p ≤ data.length ∧ (∃ q, x = .inl (out, q, (data, (p : Int)))) ∧ U = if data.drop p ≠ [] then ([], (3, -2)) else (out, (0, 0))) ?_ fun x hx => ?_
  · refine Tot.loop (fun st => ∃ i p : Nat, p ≤ data.length ∧ i ≤ l.length ∧ st.1.length ≤ i ∧ st.2.1 = (i : Int) ∧ st.2.2.2 = (data, (p : Int)) ∧ U = unp (l.drop i) i (data.drop p) st.1) (fun st => l.length - st.2.1.toNat) ⟨0, 0, by omega, by omega, Nat.le_refl 0, rfl, rfl, by rw [List.drop_zero, List.drop_zero]; exact hU.symm⟩ fun st ⟨i, p, hp, hi, hol, e1, e2, hu⟩ => ?_
    obtain ⟨out, j, ⟨f1, f2⟩, dd⟩ := st
    simp only at e1 e2 hu hol
    subst e1 e2
    refine Tot.ite (fun g => ?_) (fun g => Tot.ret ?_)
    · have g : (i : Int) < (l.length : Int) := of_decide_eq_true g
      have hil : i < l.length := by omega
      have hx := hgood _ (List.getElem_mem hil)
      have hxo := ho _ (List.getElem_mem hil)
      rw [drop_cons hil, unp_cons] at hu
      refine Tot.bind0 (idx_nat hil) ?_
      have hlen : (rdF l[i] (data.drop p)).1 = 0 → (rdF l[i] (data.drop p)).2.2 ≤ data.length - p := fun e => by have := rdF_len hx hxo e; rwa [List.length_drop] at this
      generalize l[i] = x at *
      refine Tot.bindq (value_gen hd hp hx hxo) fun r ⟨hr1, hr2⟩ => ?_
      refine Tot.ite (fun g2 => ?_) (fun g2 => ?_)
      · have g2 : r.2.1 ≠ 0 := by simpa using g2
        rw [hr1] at g2
        rw [if_pos g2] at hu
        unfold packing_at
        refine Tot.some_bind (Tot.ret (.inl ?_))
        rw [hu, ← hr1]
      · have g2 : r.2.1 = 0 := by simpa using g2
        obtain ⟨a1, a2⟩ := hr2 g2
        have a0 : (rdF x (data.drop p)).1 = 0 := by rw [← hr1]; exact g2
        have hlen := hlen a0
        rw [if_neg (by omega)] at hu
        have e1 : IntKind.i64.wrap ((i : Int) + 1) = ((i + 1 : Nat) : Int) := by rw [i64_small (by omega) (by omega)]; omega
        refine Tot.bindq (P := (· = if x.1 ≠ 120 then out ++ [(rdF x (data.drop p)).2.1] else out)) (Tot.ite (fun g3 => ?_) (fun g3 => Tot.ret ?_)) fun j hj => Tot.ret ?_
        · have g3 : x.1 ≠ 120 := by simpa using g3
          rw [if_pos g3]
          refine Tot.bind0 (app_ok (by simp; omega)) (Tot.ret ?_)
          show out ++ [r.1] = _
          rw [a1]
        · have g3 : x.1 = 120 := by simpa using g3
          rw [if_neg (by omega)]
        · subst hj
          rw [e1]
          refine ⟨⟨i + 1, p + (rdF x (data.drop p)).2.2, by omega, by omega, ?_, rfl, ?_, ?_⟩, by show l.length - (((i + 1 : Nat) : Int)).toNat < l.length - ((i : Int)).toNat; omega⟩
          · show (if x.1 ≠ 120 then out ++ [(rdF x (data.drop p)).2.1] else out).length ≤ i + 1
            split
            · simp; omega
            · omega
          · show (data, r.2.2.2) = _
            rw [a2]
          · rw [hu, List.drop_drop]
    · have g : ¬ (i : Int) < (l.length : Int) := of_decide_eq_false g
      rw [List.drop_of_length_le (by omega), unp_nil] at hu
      exact .inr ⟨p, out, hp, ⟨_, rfl⟩, hu⟩
  · rcases hx with hx | ⟨p, out, hp, ⟨q, hx⟩, hu⟩
    · subst hx; exact Tot.contr rfl
    · subst hx
      refine Tot.contl (Tot.ite (fun g => ?_) (fun g => Tot.ret ?_))
      · have g : (p : Int) < (data.length : Int) := of_decide_eq_true g
        unfold packing_at
        refine Tot.some_bind (Tot.ret ?_)
        rw [hu, if_pos (by intro e; have := congrArg List.length e; rw [List.length_drop] at this; simp at this; omega)]
      · have g : ¬ (p : Int) < (data.length : Int) := of_decide_eq_false g
        rw [hu, List.drop_of_length_le (by omega), if_neg (by simp)]
end Go.Gv.P

