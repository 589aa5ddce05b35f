import Derived.Test.YtdpmkphjcjacfaaDoorF0
import Derived.Test.YtdpmkphjcjacfaaDoorGo
set_option linter.all false
namespace Go.Gv.P
open Go Go.Gv Go.Gv.D Go.Gv.R
set_option maxRecDepth 100000

/-! ### integers as values, words -/
def lim (m : Nat) : List Int := if m = 0 then [] else if m < 4294967296 then [(m : Int)] else [((m % 4294967296 : Nat) : Int), ((m / 4294967296 : Nat) : Int)]
theorem u32_wrap' (x : Int) : IntKind.u32.wrap x = x % 4294967296 := by simp [IntKind.wrap, IntKind.signed, IntKind.bits]
theorem lim_len (m : Nat) : (lim m).length ≤ 2 := by unfold lim; split <;> (try split) <;> simp
theorem Of_lim {n : Int} (h0 : -9223372036854775808 ≤ n) (h1 : n ≤ 9223372036854775807) : Tot (fun fuel => integer_Of fuel n) (· = (decide (n < 0), lim n.natAbs)) := by
  unfold integer_Of
  refine Tot.bindq (P := (· = ((n.natAbs : Nat) : Int))) (Tot.ite (fun h => Tot.some_bind (Tot.ret ?_)) (fun h => Tot.ret ?_)) fun u hu => ?_
  · have h : n < 0 := of_decide_eq_true h
    rw [u64_wrap, u64_wrap]; omega
  · have h : ¬ n < 0 := of_decide_eq_false h
    rw [u64_wrap]; omega
  subst hu
  have hm : n.natAbs ≤ 9223372036854775808 := by omega
  generalize n.natAbs = m at hm ⊢
  refine Tot.bindq (P := (· = lim m)) ?_ fun x hx => Tot.ret (by rw [hx])
  have hf : ((m : Nat) : Int).fdiv (2 ^ 32) = ((m / 4294967296 : Nat) : Int) := by rw [Int.fdiv_eq_ediv_of_nonneg _ (by decide)]; omega
  rw [hf, u32_wrap', u32_wrap', show ((m : Nat) : Int) % 4294967296 = ((m % 4294967296 : Nat) : Int) by omega, show ((m / 4294967296 : Nat) : Int) % 4294967296 = ((m / 4294967296 : Nat) : Int) by omega]
  have tail : ∀ (l : List Int) (x : Int), (l ++ [x]).length = l.length + 1 := fun l x => by simp
  refine Tot.loop (fun st => st = [((m % 4294967296 : Nat) : Int), ((m / 4294967296 : Nat) : Int)] ∨ (m < 4294967296 ∧ st = [(m : Int)]) ∨ (m = 0 ∧ st = [])) (fun st => st.length) (.inl rfl) fun st hI => ?_
  rcases hI with e | ⟨hs, e⟩ | ⟨hs, e⟩
  · subst e
    refine Tot.bindq (P := (· = (((m / 4294967296 : Nat) : Int) == 0))) (Tot.it rfl (Tot.bind0 (idx_nat (i := 1) (by simp)) (Tot.ret rfl))) fun b hb => ?_
    subst hb
    refine Tot.ite (fun h => ?_) (fun h => Tot.ret ?_)
    · have h : ((m / 4294967296 : Nat) : Int) = 0 := beq_iff_eq.1 h
      have hsm : m < 4294967296 := by omega
      refine Tot.bind0 (a := [((m % 4294967296 : Nat) : Int)]) rfl (Tot.ret ?_)
      rw [Nat.mod_eq_of_lt hsm]
      exact ⟨.inr (.inl ⟨hsm, rfl⟩), by show 1 < 2; decide⟩
    · have h : ¬ ((m / 4294967296 : Nat) : Int) = 0 := beq_eq_false_iff_ne.1 h
      show _ = _
      unfold lim
      rw [if_neg (by omega), if_neg (by omega)]
  · subst e
    refine Tot.bindq (P := (· = ((m : Int) == 0))) (Tot.it rfl (Tot.bind0 (idx_nat (i := 0) (by simp)) (Tot.ret rfl))) fun b hb => ?_
    subst hb
    refine Tot.ite (fun h => ?_) (fun h => Tot.ret ?_)
    · have h : (m : Int) = 0 := beq_iff_eq.1 h
      refine Tot.bind0 (a := []) rfl (Tot.ret ?_)
      exact ⟨.inr (.inr ⟨by omega, rfl⟩), by show 0 < 1; decide⟩
    · have h : ¬ (m : Int) = 0 := beq_eq_false_iff_ne.1 h
      show _ = _
      unfold lim
      rw [if_neg (by omega), if_pos hs]
  · subst e
    refine Tot.bindq (P := (· = false)) (Tot.if_ rfl (Tot.ret rfl)) fun b hb => ?_
    subst hb
    refine Tot.if_ rfl (Tot.ret ?_)
    show _ = _
    unfold lim
    rw [if_pos hs]
abbrev Val := Int × (Bool × List Int) × (Bool × List Int) × ByteArray × Int
def valOf (n : Int) : Val := (2, (decide (n < 0), lim n.natAbs), (false, []), strOf [], 0)
theorem lawwhole_tot {n : Int} (h0 : -9223372036854775808 ≤ n) (h1 : n ≤ 9223372036854775807) : Tot (fun fuel => law4_whole fuel n) (· = valOf n) := by
  unfold law4_whole
  exact Tot.bindq (Of_lim h0 h1) fun r hr => Tot.ret (by rw [hr]; rfl)
theorem whole_tot {n : Int} (h0 : -9223372036854775808 ≤ n) (h1 : n ≤ 9223372036854775807) : Tot (fun fuel => packing_whole fuel n) (· = valOf n) := by
  unfold packing_whole
  exact Tot.bindq (Of_lim h0 h1) fun r hr => Tot.ret (by rw [hr]; rfl)
theorem i64_range (x : Int) : -9223372036854775808 ≤ IntKind.i64.wrap x ∧ IntKind.i64.wrap x ≤ 9223372036854775807 := by
  simp [IntKind.wrap, IntKind.signed, IntKind.bits]
  omega
theorem lim_last {m : Nat} (h : m ≠ 0) (hm : m ≤ 18446744073709551615) : 0 < (lim m).length ∧ ∃ x, idx (lim m) (IntKind.i64.wrap (((lim m).length : Int) - 1)) = some x ∧ x ≠ 0 := by
  unfold lim
  rw [if_neg h]
  by_cases h1 : m < 4294967296
  · rw [if_pos h1]
    exact ⟨by simp, (m : Int), idx_nat (i := 0) (xs := [(m : Int)]) (by simp), by omega⟩
  · rw [if_neg h1]
    exact ⟨by simp, ((m / 4294967296 : Nat) : Int), idx_nat (i := 1) (xs := [((m % 4294967296 : Nat) : Int), ((m / 4294967296 : Nat) : Int)]) (by simp), by omega⟩
theorem Valid_lim {b : Bool} {m : Nat} (hb : b = true → m ≠ 0) (hm : m ≤ 18446744073709551615) : Tot (fun fuel => integer_Valid fuel (b, lim m)) (· = true) := by
  unfold integer_Valid
  have hl := lim_len m
  refine Tot.bindq (P := (· = true)) (Tot.it (decide_eq_true (by show (((lim m).length : Nat) : Int) ≤ 128; omega)) ?_) fun x hx => Tot.ret hx
  by_cases h0 : m = 0
  · subst h0
    refine Tot.it rfl ?_
    cases b with
    | true => exact absurd rfl (hb rfl)
    | false => exact Tot.it rfl (Tot.ret rfl)
  · obtain ⟨h1, x, h2, h3⟩ := lim_last h0 hm
    refine Tot.if_ (beq_eq_false_iff_ne.2 (by show ¬ (((lim m).length : Nat) : Int) = 0; omega)) (Tot.it (decide_eq_true (by show (((lim m).length : Nat) : Int) > 0; omega)) (Tot.bind0 h2 (Tot.ret ?_)))
    simpa using h3
theorem or64_zero {b : Int} (hb : 0 ≤ b ∧ b < 18446744073709551616) : bwOr .u64 0 b = b := by
  unfold bwOr
  have h1 : (BitVec.ofInt 64 0 ||| BitVec.ofInt 64 b).toNat = b.toNat := by
    rw [BitVec.toNat_or]
    have e2 : (BitVec.ofInt 64 b).toNat = b.toNat := by simp only [BitVec.toNat_ofInt]; omega
    rw [e2]
    simp
  show IntKind.u64.wrap ((BitVec.ofInt 64 0 ||| BitVec.ofInt 64 b).toNat : Int) = _
  rw [h1, u64_wrap]
  omega
theorem or64_shift {a b : Int} (ha : 0 ≤ a ∧ a < 4294967296) (hb : 0 ≤ b ∧ b < 4294967296) : bwOr .u64 a (b * 4294967296) = a + b * 4294967296 := by
  unfold bwOr
  have h1 : (BitVec.ofInt 64 a ||| BitVec.ofInt 64 (b * 4294967296)).toNat = a.toNat + b.toNat * 4294967296 := by
    rw [BitVec.toNat_or]
    have e1 : (BitVec.ofInt 64 a).toNat = a.toNat := by simp only [BitVec.toNat_ofInt]; omega
    have e2 : (BitVec.ofInt 64 (b * 4294967296)).toNat = 2 ^ 32 * b.toNat := by simp only [BitVec.toNat_ofInt]; omega
    rw [e1, e2, Nat.or_comm, ← Nat.two_pow_add_eq_or_of_lt (by omega)]
    omega
  show IntKind.u64.wrap ((BitVec.ofInt 64 a ||| BitVec.ofInt 64 (b * 4294967296)).toNat : Int) = _
  rw [h1, u64_wrap]
  omega
theorem shl64 (x : Int) (k : Nat) (hk : k ≤ 64) : shlI .u64 x (k : Int) = (x * 2 ^ k) % 18446744073709551616 := by
  unfold shlI
  rw [show min ((k : Nat) : Int).toNat IntKind.u64.bits = k by show min ((k : Nat) : Int).toNat 64 = k; omega, u64_wrap]
/-- the word of a whole number: at eight bytes, signed -/
theorem word_tot {b : Bool} {m : Nat} (hm : m < 18446744073709551616) : Tot (fun fuel => packing_word fuel (b, lim m) 8 true) (· = if b = true then (IntKind.u64.wrap (0 - (m : Int)), decide (m ≤ 9223372036854775808)) else ((m : Int), decide (m < 9223372036854775808))) := by
  unfold packing_word
  have hl := lim_len m
  refine Tot.if_ (decide_eq_false (by show ¬ (((lim m).length : Nat) : Int) > 2; omega)) ?_
  refine Tot.bindq (P := (· = (m : Int))) ?_ fun x hx => ?_
  · have hpart : ∀ i, i ≤ 2 → ∀ j : Nat, i = j → True := fun _ _ _ _ => trivial
    refine Tot.loop (fun st => ∃ i : Nat, st.2 = (i : Int) ∧ i ≤ (lim m).length ∧ ((i = 0 ∧ st.1 = 0) ∨ (i = 1 ∧ st.1 = ((m % 4294967296 : Nat) : Int)) ∨ (i = 2 ∧ st.1 = (m : Int)))) (fun st => 2 - st.2.toNat) ⟨0, rfl, Nat.zero_le _, .inl ⟨rfl, rfl⟩⟩ fun st ⟨i, e, hi, hI⟩ => ?_
    obtain ⟨a, j⟩ := st
    simp only at e hI
    subst e
    refine Tot.ite (fun h => ?_) (fun h => Tot.ret ?_)
    · have h : ((i : Nat) : Int) < (((lim m).length : Nat) : Int) := of_decide_eq_true h
      have hil : i < (lim m).length := by omega
      refine Tot.bind0 (idx_nat hil) ?_
      rw [i64_small (x := 32 * (i : Int)) (by omega) (by omega)]
      refine Tot.bind0 (a := ()) (by unfold nn; rw [if_pos (by omega)]) (Tot.some_bind (Tot.ret ?_))
      rw [i64_small (by omega) (by omega)]
      refine ⟨⟨i + 1, by simp, hil, ?_⟩, by show 2 - ((i : Int) + 1).toNat < 2 - ((i : Int)).toNat; omega⟩
      have hx : ∃ x : Nat, (lim m)[i] = (x : Int) ∧ x < 4294967296 ∧ ((i = 0 ∧ x = m % 4294967296) ∨ (i = 1 ∧ x = m / 4294967296)) := by
        have hcase : i = 0 ∨ i = 1 := by omega
        have hq : ∀ (l : List Int) (hl : lim m = l) (h : i < l.length), (lim m)[i]'hil = l[i]'h := fun l hl h => by subst hl; rfl
        have h0 : m ≠ 0 := fun e => by rw [e] at hil; exact absurd hil (by show ¬ i < 0; omega)
        by_cases h1 : m < 4294967296
        · have el : lim m = [(m : Int)] := by unfold lim; rw [if_neg h0, if_pos h1]
          have hi0 : i = 0 := by rw [el] at hil; simp at hil; exact hil
          subst hi0
          exact ⟨m, hq _ el (by simp), h1, .inl ⟨rfl, (Nat.mod_eq_of_lt h1).symm⟩⟩
        · have el : lim m = [((m % 4294967296 : Nat) : Int), ((m / 4294967296 : Nat) : Int)] := by unfold lim; rw [if_neg h0, if_neg h1]
          rcases hcase with hi0 | hi0
          · subst hi0
            exact ⟨m % 4294967296, hq _ el (by simp), by omega, .inl ⟨rfl, rfl⟩⟩
          · subst hi0
            exact ⟨m / 4294967296, hq _ el (by simp), by omega, .inr ⟨rfl, rfl⟩⟩
      obtain ⟨x, ex, hxl, hx⟩ := hx
      rw [ex, u64_wrap, show ((x : Nat) : Int) % 18446744073709551616 = (x : Int) by omega, show (32 * (i : Int)) = ((32 * i : Nat) : Int) by omega, shl64 _ _ (by omega)]
      rcases hx with ⟨h0, h1⟩ | ⟨h0, h1⟩
      · subst h0
        rcases hI with ⟨_, ha⟩ | ⟨h, _⟩ | ⟨h, _⟩
        · subst ha
          refine .inr (.inl ⟨rfl, ?_⟩)
          show bwOr .u64 0 (((x : Nat) : Int) * 2 ^ (32 * 0) % 18446744073709551616) = _
          rw [show ((x : Nat) : Int) * 2 ^ (32 * 0) % 18446744073709551616 = (x : Int) by simp; omega, or64_zero (by omega), h1]
        · omega
        · omega
      · subst h0
        rcases hI with ⟨h, _⟩ | ⟨_, ha⟩ | ⟨h, _⟩
        · omega
        · subst ha
          refine .inr (.inr ⟨rfl, ?_⟩)
          show bwOr .u64 ((m % 4294967296 : Nat) : Int) (((x : Nat) : Int) * 2 ^ (32 * 1) % 18446744073709551616) = _
          rw [show ((x : Nat) : Int) * 2 ^ (32 * 1) % 18446744073709551616 = (x : Int) * 4294967296 by omega, or64_shift (by omega) (by omega)]
          omega
        · omega
    · have h : ¬ ((i : Nat) : Int) < (((lim m).length : Nat) : Int) := of_decide_eq_false h
      have hil : i = (lim m).length := by omega
      show a = _
      rcases hI with ⟨h0, ha⟩ | ⟨h0, ha⟩ | ⟨h0, ha⟩
      · have : m = 0 := by
          unfold lim at hil
          by_cases h1 : m = 0
          · exact h1
          · rw [if_neg h1] at hil; split at hil <;> simp at hil <;> omega
        rw [ha, this]; rfl
      · have : m < 4294967296 := by
          unfold lim at hil
          by_cases h1 : m = 0
          · omega
          · rw [if_neg h1] at hil; split at hil
            · assumption
            · simp at hil; omega
        rw [ha, Nat.mod_eq_of_lt this]
      · exact ha
  subst hx
  refine Tot.bind0 (a := ()) rfl ?_
  have h63 : shlI .u64 1 (IntKind.i64.wrap ((IntKind.i64.wrap (8 * 8)) - 1)) = 9223372036854775808 := by kernel_rfl
  rw [h63]
  refine Tot.some_bind (Tot.if_ rfl ?_)
  have d1 : decide ((m : Int) ≤ 9223372036854775808) = decide (m ≤ 9223372036854775808) := by rw [decide_eq_decide]; omega
  have d2 : decide ((m : Int) < 9223372036854775808) = decide (m < 9223372036854775808) := by rw [decide_eq_decide]; omega
  rw [← d1, ← d2]
  cases b with
  | true => exact Tot.it rfl (Tot.ret (if_pos rfl).symm)
  | false => exact Tot.if_ rfl (Tot.ret (if_neg (by decide)).symm)
end Go.Gv.P
namespace Go.Gv.P
open Go Go.Gv Go.Gv.D Go.Gv.R
set_option maxRecDepth 100000

/-! ### numbers of seven bits -/
def vint : Nat → Nat → List UInt8
  | 0, u => [u.toUInt8]
  | k + 1, u => if 128 ≤ u then (u % 128 + 128).toUInt8 :: vint k (u / 128) else [u.toUInt8]
def zig (n : Int) : Nat := if n < 0 then (-2 * n - 1).toNat else (2 * n).toNat
theorem zig_lt {n : Int} (h0 : -9223372036854775808 ≤ n) (h1 : n ≤ 9223372036854775807) : zig n < 18446744073709551616 := by
  unfold zig; split <;> omega
theorem zig_half (n : Int) : ((zig n / 2 : Nat) : Int) = if n < 0 then -1 - n else n := by
  unfold zig; split <;> omega
theorem zig_inj {a b : Int} (h : zig a = zig b) : a = b := by
  unfold zig at h; split at h <;> split at h <;> omega
theorem vint_len : ∀ (k u : Nat), 1 ≤ (vint k u).length ∧ (vint k u).length ≤ k + 1
  | 0, _ => ⟨Nat.le_refl _, Nat.le_refl _⟩
  | k + 1, u => by
    have := vint_len k (u / 128)
    unfold vint
    split
    · simp only [List.length_cons]; omega
    · simp
theorem vint_mono : ∀ (k u v : Nat), u / 2 ≤ v / 2 → (vint k u).length ≤ (vint k v).length
  | 0, _, _, _ => Nat.le_refl _
  | k + 1, u, v, h => by
    unfold vint
    by_cases h1 : 128 ≤ u
    · rw [if_pos h1, if_pos (by omega)]
      have := vint_mono k (u / 128) (v / 128) (by omega)
      simp only [List.length_cons]; omega
    · rw [if_neg h1]
      split
      · simp
      · simp
def unv : List UInt8 → Nat
  | [] => 0
  | b :: l => b.toNat % 128 + 128 * unv l
theorem toU8 {u : Nat} (h : u < 256) : (u.toUInt8).toNat = u := UInt8.toNat_ofNat_of_lt' (show u < 256 from h)
theorem unv_vint : ∀ (k u : Nat), u < 128 ^ (k + 1) → unv (vint k u) = u
  | 0, u, h => by
    have h : u < 128 := by simpa using h
    show (u.toUInt8).toNat % 128 + 128 * 0 = u
    rw [toU8 (by omega)]; omega
  | k + 1, u, h => by
    unfold vint
    by_cases h1 : 128 ≤ u
    · rw [if_pos h1]
      show ((u % 128 + 128).toUInt8).toNat % 128 + 128 * unv (vint k (u / 128)) = u
      rw [toU8 (by omega), unv_vint k (u / 128) (by rw [Nat.pow_succ] at h; exact Nat.div_lt_of_lt_mul (by omega))]
      omega
    · rw [if_neg h1]
      show (u.toUInt8).toNat % 128 + 128 * 0 = u
      rw [toU8 (by omega)]; omega
theorem vint_inj {k u v : Nat} (hu : u < 128 ^ (k + 1)) (hv : v < 128 ^ (k + 1)) (h : vint k u = vint k v) : u = v := by
  rw [← unv_vint k u hu, h, unv_vint k v hv]
/-- the shape of such a number -/
def Shape (pre : List UInt8) (last : UInt8) : Prop := (∀ b ∈ pre, 128 ≤ b.toNat) ∧ last.toNat < 128 ∧ (pre ≠ [] → last.toNat ≠ 0) ∧ pre.length ≤ 9 ∧ (pre.length = 9 → last.toNat ≤ 1)
theorem vint_shape : ∀ (k u B : Nat), u < B → B ≤ 2 * 128 ^ k → ∃ pre last, vint k u = pre ++ [last] ∧ (∀ b ∈ pre, 128 ≤ b.toNat) ∧ last.toNat < 128 ∧ ((pre ≠ [] ∨ u ≠ 0) → last.toNat ≠ 0) ∧ pre.length ≤ k ∧ (pre.length = k → last.toNat ≤ 1 ∨ pre.length ≠ k)
  | 0, u, B, h, hB => by
    have hu : u < 2 := by simpa using Nat.lt_of_lt_of_le h hB
    refine ⟨[], u.toUInt8, rfl, fun b hb => (by cases hb), by rw [toU8 (by omega)]; omega, fun h => ?_, Nat.le_refl _, fun _ => .inl (by rw [toU8 (by omega)]; omega)⟩
    rw [toU8 (by omega)]
    rcases h with h | h
    · exact absurd rfl h
    · exact h
  | k + 1, u, B, h, hB => by
    unfold vint
    by_cases h1 : 128 ≤ u
    · rw [if_pos h1]
      obtain ⟨pre, last, e, g1, g2, g3, g4, g5⟩ := vint_shape k (u / 128) (2 * 128 ^ k) (by rw [Nat.pow_succ] at hB; exact Nat.div_lt_of_lt_mul (by omega)) (Nat.le_refl _)
      refine ⟨(u % 128 + 128).toUInt8 :: pre, last, by rw [e]; rfl, fun b hb => ?_, g2, fun _ => g3 (.inr (by omega)), by simp only [List.length_cons]; omega, fun h => ?_⟩
      · rcases List.mem_cons.1 hb with e | e
        · subst e; rw [toU8 (by omega)]; omega
        · exact g1 b e
      · simp only [List.length_cons] at h
        rcases g5 (by omega) with g | g
        · exact .inl g
        · exact absurd (by omega) g
    · rw [if_neg h1]
      refine ⟨[], u.toUInt8, rfl, fun b hb => (by cases hb), by rw [toU8 (by omega)]; omega, fun h => ?_, Nat.zero_le _, fun h => by simp at h⟩
      rw [toU8 (by omega)]
      rcases h with h | h
      · exact absurd rfl h
      · exact h
theorem shape9 {u : Nat} (h : u < 18446744073709551616) : ∃ pre last, vint 9 u = pre ++ [last] ∧ Shape pre last := by
  obtain ⟨pre, last, e, g1, g2, g3, g4, g5⟩ := vint_shape 9 u 18446744073709551616 h (by decide)
  refine ⟨pre, last, e, g1, g2, fun h => g3 (.inl h), g4, fun h => ?_⟩
  rcases g5 h with g | g
  · exact g
  · exact absurd h g

theorem xor_ones {x : Int} (h : 0 ≤ x ∧ x < 18446744073709551616) : bwXor .u64 x 18446744073709551615 = 18446744073709551615 - x := by
  unfold bwXor
  have h1 : (BitVec.ofInt 64 x ^^^ BitVec.ofInt 64 18446744073709551615).toNat = (18446744073709551615 - x).toNat := by
    rw [show BitVec.ofInt 64 18446744073709551615 = BitVec.allOnes 64 by decide, BitVec.xor_allOnes, BitVec.toNat_not]
    simp only [BitVec.toNat_ofInt]
    omega
  show IntKind.u64.wrap ((BitVec.ofInt 64 x ^^^ BitVec.ofInt 64 18446744073709551615).toNat : Int) = _
  rw [h1, u64_wrap]
  omega
theorem xor_none {x : Int} (h : 0 ≤ x ∧ x < 18446744073709551616) : bwXor .u64 x 0 = x := by
  unfold bwXor
  have h1 : (BitVec.ofInt 64 x ^^^ BitVec.ofInt 64 0).toNat = x.toNat := by
    rw [show BitVec.ofInt 64 0 = 0#64 by decide, BitVec.xor_zero]
    simp only [BitVec.toNat_ofInt]
    omega
  show IntKind.u64.wrap ((BitVec.ofInt 64 x ^^^ BitVec.ofInt 64 0).toNat : Int) = _
  rw [h1, u64_wrap]
  omega
theorem zig_xor {n : Int} (h0 : -9223372036854775808 ≤ n) (h1 : n ≤ 9223372036854775807) : bwXor .u64 (IntKind.u64.wrap (n % 18446744073709551616 * 2 ^ 1)) (IntKind.u64.wrap (0 - ((n % 18446744073709551616).fdiv (2 ^ 63)))) = (zig n : Int) := by
  unfold zig
  rw [Int.fdiv_eq_ediv_of_nonneg _ (by decide), u64_wrap, u64_wrap]
  by_cases h : n < 0
  · rw [if_pos h, show (0 - n % 18446744073709551616 / 2 ^ 63) % 18446744073709551616 = 18446744073709551615 by omega, xor_ones (by omega)]
    omega
  · rw [if_neg h, show (0 - n % 18446744073709551616 / 2 ^ 63) % 18446744073709551616 = 0 by omega, xor_none (by omega)]
    omega
theorem or128 {u : Nat} (h : u < 256) : bwOr .u8 (u : Int) 128 = ((u % 128 + 128 : Nat) : Int) := by
  have := List.all_eq_true.1 (show (List.range 256).all (fun u => bwOr .u8 (u : Int) 128 == ((u % 128 + 128 : Nat) : Int)) = true by kernel_rfl) u (List.mem_range.2 h)
  exact beq_iff_eq.1 this
theorem zigzag_tot {out : List UInt8} {n : Int} (ho : out.length ≤ 1048576) (h0 : -9223372036854775808 ≤ n) (h1 : n ≤ 9223372036854775807) : Tot (fun fuel => packing_zigzag fuel out (n % 18446744073709551616)) (· = out ++ vint 9 (zig n)) := by
  unfold packing_zigzag
  rw [zig_xor h0 h1]
  have hz := zig_lt h0 h1
  generalize zig n = z at hz ⊢
  refine Tot.some_bind ?_
  refine Tot.bindq (P := fun x => ∃ u : Nat, u < 128 ∧ x.2 = (u : Int) ∧ out ++ vint 9 z = x.1 ++ [u.toUInt8] ∧ x.1.length ≤ 1048600) ?_ fun x ⟨u, hu, e2, e1, hl⟩ => ?_
  · refine Tot.loop (fun st => ∃ i u : Nat, i ≤ 9 ∧ u < 2 ^ (64 - 7 * i) ∧ st.2 = (u : Int) ∧ out ++ vint 9 z = st.1 ++ vint (9 - i) u ∧ st.1.length = out.length + i) (fun st => st.2.toNat) ⟨0, z, by omega, hz, rfl, rfl, rfl⟩ fun st ⟨i, u, hi, hu, e, eo, hl⟩ => ?_
    obtain ⟨cur, q⟩ := st
    simp only at e eo hl
    subst e
    refine Tot.ite (fun h => ?_) (fun h => Tot.ret ?_)
    · have h : ((u : Nat) : Int) ≥ 128 := of_decide_eq_true h
      have hi8 : i ≤ 8 := by
        rcases Nat.lt_or_ge i 9 with g | g
        · omega
        · have : i = 9 := by omega
          subst this
          have : u < 2 := by simpa using hu
          omega
      have hw : IntKind.u8.wrap ((u : Nat) : Int) = ((u % 256 : Nat) : Int) := by rw [u8_wrap]; omega
      have hb : u8 (bwOr .u8 (IntKind.u8.wrap ((u : Nat) : Int)) 128) = some (u % 128 + 128).toUInt8 := by
        rw [hw, or128 (by omega), show u % 256 % 128 = u % 128 by omega, u8_ok (by omega)]
      refine Tot.bind0 hb ?_
      have ha : app cur [(u % 128 + 128).toUInt8] = some (cur ++ [(u % 128 + 128).toUInt8]) := by unfold app; rw [if_pos (by simp; omega)]
      refine Tot.bind0 ha (Tot.ret ?_)
      have hd : ((u : Nat) : Int).fdiv (2 ^ 7) = ((u / 128 : Nat) : Int) := by rw [Int.fdiv_eq_ediv_of_nonneg _ (by decide)]; omega
      have hstep : vint (9 - i) u = (u % 128 + 128).toUInt8 :: vint (9 - (i + 1)) (u / 128) := by
        rw [show 9 - i = (9 - (i + 1)) + 1 by omega]
        show (if 128 ≤ u then _ else _) = _
        rw [if_pos (by omega)]
      refine ⟨⟨i + 1, u / 128, by omega, ?_, hd, ?_, by show (cur ++ [_]).length = _; simp; omega⟩, ?_⟩
      · refine Nat.div_lt_of_lt_mul ?_
        rw [show 64 - 7 * i = 7 + (64 - 7 * (i + 1)) by omega, Nat.pow_add] at hu
        exact hu
      · rw [eo, hstep]; simp
      · show (((u : Nat) : Int).fdiv (2 ^ 7)).toNat < ((u : Nat) : Int).toNat
        rw [hd]; omega
    · have h : ¬ ((u : Nat) : Int) ≥ 128 := of_decide_eq_false h
      refine ⟨u, by omega, rfl, ?_, by show cur.length ≤ _; omega⟩
      rw [eo]
      congr 1
      cases 9 - i with
      | zero => rfl
      | succ k =>
        show (if 128 ≤ u then _ else _) = _
        rw [if_neg (by omega)]
  · obtain ⟨cur, q⟩ := x
    simp only at e2 e1 hl
    subst e2
    have hb : u8 (IntKind.u8.wrap ((u : Nat) : Int)) = some u.toUInt8 := by
      rw [u8_small (by omega) (by omega), u8_ok (by omega)]
    refine Tot.bind0 hb ?_
    have ha : app cur [u.toUInt8] = some (cur ++ [u.toUInt8]) := by unfold app; rw [if_pos (by simp; omega)]
    exact Tot.bind0 ha (Tot.ret e1.symm)
end Go.Gv.P
namespace Go.Gv.P
open Go Go.Gv Go.Gv.D Go.Gv.R
set_option maxRecDepth 100000

/-! ### one whole number packed and read again -/
def oneF : List (Int × Int × Bool) := [(118, 1, false)]
theorem Check1 : Tot (fun n => packing_Check n oneF) (· = (0, 0)) := Tot.of_all 40 (fun k => by kernel_rfl) rfl
theorem values1 : Tot (fun n => packing_values n oneF) (· = 1) := Tot.of_all 40 (fun k => by kernel_rfl) rfl
theorem Sizes1 : Tot (fun n => packing_Sizes n oneF) (· = (1, 10, (0, 0))) := Tot.of_all 40 (fun k => by kernel_rfl) rfl
theorem width118 : Tot (fun n => packing_width n 118) (· = (0, true)) := Tot.of_all 40 (fun k => by kernel_rfl) rfl

theorem valid_tot {n : Int} (h0 : -9223372036854775808 ≤ n) (h1 : n ≤ 9223372036854775807) : Tot (fun fuel => packing_valid fuel (valOf n)) (· = true) := by
  unfold packing_valid
  refine Tot.it rfl (Tot.bindq (Valid_lim (b := decide (n < 0)) (m := n.natAbs) (fun h => by have := of_decide_eq_true h; omega) (by omega)) fun r hr => Tot.ret hr)
theorem pack_tot {n : Int} (h0 : -9223372036854775808 ≤ n) (h1 : n ≤ 9223372036854775807) : Tot (fun fuel => packing_pack fuel [] (118, 1, false) (valOf n)) (· = (vint 9 (zig n), 0)) := by
  unfold packing_pack
  refine Tot.bindq (P := (· = false)) (Tot.if_ rfl (Tot.ret rfl)) fun b hb => ?_
  subst hb
  refine Tot.bindq (P := (· = 2)) (Tot.if_ rfl (Tot.if_ rfl (Tot.ret rfl))) fun b hb => ?_
  subst hb
  refine Tot.if_ rfl (Tot.if_ rfl (Tot.if_ rfl (Tot.if_ rfl (Tot.bindq width118 fun r hr => ?_))))
  subst hr
  refine Tot.bindq (P := (· = 8)) (Tot.it rfl (Tot.ret rfl)) fun b hb => ?_
  subst hb
  refine Tot.bindq (word_tot (b := decide (n < 0)) (m := n.natAbs) (by omega)) fun r hr => ?_
  have hr2 : r = (n % 18446744073709551616, true) := by
    rw [hr]
    by_cases h : n < 0
    · rw [if_pos (decide_eq_true h), u64_wrap, decide_eq_true (by omega)]
      congr 1
      omega
    · rw [if_neg (by rw [decide_eq_false h]; decide), decide_eq_true (by omega)]
      congr 1
      omega
  subst hr2
  refine Tot.if_ rfl (Tot.it rfl (Tot.bindq (zigzag_tot (out := []) (by simp) h0 h1) fun z hz => Tot.ret ?_))
  rw [hz]; rfl
theorem Pack_tot {n : Int} (h0 : -9223372036854775808 ≤ n) (h1 : n ≤ 9223372036854775807) : Tot (fun fuel => packing_Pack fuel oneF [valOf n]) (· = (vint 9 (zig n), (0, 0))) := by
  unfold packing_Pack
  refine Tot.bindq Check1 fun r hr => ?_
  subst hr
  refine Tot.if_ rfl (Tot.bindq values1 fun r hr => ?_)
  subst hr
  refine Tot.if_ rfl ?_
  refine Tot.bindq (P := fun x => ∃ a b, x = .inl (vint 9 (zig n), (a, b))) ?_ fun x ⟨a, b, hx⟩ => ?_
  · refine Tot.loop (fun st => st = ([], 0, 0, (0, 0)) ∨ st = (vint 9 (zig n), 1, 1, (0, 0))) (fun st => 1 - st.2.2.1.toNat) (.inl rfl) fun st hI => ?_
    rcases hI with e | e
    · subst e
      refine Tot.it rfl ?_
      refine Tot.bindq (P := (· = .inl (vint 9 (zig n), 1, (0, 0)))) ?_ fun x hx => ?_
      · refine Tot.bind0 (a := (118, 1, false)) rfl (Tot.if_ rfl (Tot.bind0 (a := valOf n) rfl (Tot.bindq (valid_tot h0 h1) fun r hr => ?_)))
        subst hr
        refine Tot.if_ rfl (Tot.bind0 (a := valOf n) rfl (Tot.bindq (pack_tot h0 h1) fun r hr => ?_))
        subst hr
        exact Tot.if_ rfl (Tot.ret rfl)
      · subst hx
        exact Tot.contl (Tot.ret ⟨.inr rfl, by show 0 < 1; decide⟩)
    · subst e
      exact Tot.if_ rfl (Tot.ret ⟨_, _, rfl⟩)
  · subst hx
    exact Tot.contl (Tot.ret rfl)

theorem take_tot {data : List UInt8} {p : Nat} (hl : data.length ≤ 1048576) (hp : p ≤ data.length) : Tot (fun fuel => packing_reader_take fuel (data, (p : Int)) 1) (fun r => (p = data.length → r = ([], false, (data, (p : Int)))) ∧ ∀ h : p < data.length, r = ([data[p]], true, (data, ((p + 1 : Nat) : Int)))) := by
  unfold packing_reader_take
  rw [i64_small (by show (-4611686018427387904 : Int) ≤ (data.length : Int) - (p : Int); omega) (by show (data.length : Int) - (p : Int) ≤ 4611686018427387904; omega)]
  refine Tot.ite (fun h => Tot.ret ?_) (fun h => ?_)
  · have h : (1 : Int) > (data.length : Int) - (p : Int) := of_decide_eq_true h
    exact ⟨fun _ => rfl, fun h2 => by omega⟩
  · have h : ¬ (1 : Int) > (data.length : Int) - (p : Int) := of_decide_eq_false h
    have hlt : p < data.length := by omega
    have e1 : IntKind.i64.wrap ((p : Int) + 1) = ((p + 1 : Nat) : Int) := by rw [i64_small (by omega) (by omega)]; omega
    have e2 : IntKind.i64.wrap (IntKind.i64.wrap ((p : Int) + 1) - 1) = (p : Int) := by rw [e1, i64_small (by omega) (by omega)]; omega
    show Tot (fun fuel => Option.bind (sub data (IntKind.i64.wrap (IntKind.i64.wrap ((p : Int) + 1) - 1)) (IntKind.i64.wrap ((p : Int) + 1))) _) _
    rw [e2, e1]
    have hs : sub data (p : Int) ((p + 1 : Nat) : Int) = some [data[p]] := by
      unfold sub
      rw [if_pos ⟨by omega, by omega, by omega⟩]
      congr 1
      show (data.take (p + 1)).drop p = _
      rw [List.drop_take, List.drop_eq_getElem_cons hlt, show p + 1 - p = 1 by omega]
      rfl
    refine Tot.bind0 hs (Tot.ret ⟨fun h => by omega, fun h2 => ?_⟩)
    rfl

theorem varied_tot {pre rest : List UInt8} (hp : ∀ b ∈ pre, 128 ≤ b.toNat) (hl : pre.length ≤ 9) (hr : rest.length ≤ 2)
    (hs : ∀ c t, rest = c :: t → c.toNat < 128 ∧ (pre ≠ [] → c.toNat ≠ 0) ∧ (pre.length = 9 → c.toNat ≤ 1)) :
    Tot (fun fuel => packing_reader_varied fuel (pre ++ rest, 0)) (fun r => if rest = [] then r.2.1 = 15 else r.2.1 = 0 ∧ r.2.2.2 = ((pre.length + 1 : Nat) : Int)) := by
  unfold packing_reader_varied
  have hdl : (pre ++ rest).length ≤ 1048576 := by simp; omega
  refine Tot.bindq (P := fun x => ∃ r, x = .inr r ∧ if rest = [] then r.2.1 = 15 else r.2.1 = 0 ∧ r.2.2.2 = ((pre.length + 1 : Nat) : Int)) ?_ fun x ⟨r, hx, hQ⟩ => ?_
  · refine Tot.loop (fun st => ∃ m : Nat, m ≤ pre.length ∧ st.2.1 = (m : Int) ∧ st.2.2.1.2 = (m : Int)) (fun st => pre.length - st.2.1.toNat) ⟨0, Nat.zero_le _, rfl, rfl⟩ fun st ⟨m, hm, e1, e2⟩ => ?_
    obtain ⟨acc, i, ⟨q1, q2⟩, v1, v2, v3, v4, v5⟩ := st
    simp only at e1 e2
    subst e1 e2
    refine Tot.bindq (take_tot hdl (p := m) (by simp; omega)) fun r ⟨hend, hmid⟩ => ?_
    by_cases hmp : m < pre.length
    · have hlt : m < (pre ++ rest).length := by simp; omega
      have hr := hmid hlt
      subst hr
      have hget : (pre ++ rest)[m] = pre[m] := List.getElem_append_left hmp
      rw [hget]
      have hb := hp _ (List.getElem_mem hmp)
      generalize pre[m] = c at hb
      have hcl := byte_lt c
      refine Tot.if_ rfl ?_
      have hi0 : idx [c] 0 = some c := rfl
      refine Tot.bindq (P := (· = false)) (Tot.ite (fun h => ?_) (fun h => ?_)) fun j hj => ?_
      · have h : (m : Int) = 9 := beq_iff_eq.1 h
        omega
      · refine Tot.ite (fun h => Tot.bind0 hi0 (Tot.ret ?_)) (fun h => Tot.ret rfl)
        exact beq_eq_false_iff_ne.2 (by omega)
      subst hj
      refine Tot.if_ rfl (Tot.bind0 hi0 ?_)
      rw [i64_small (x := 7 * ((m : Nat) : Int)) (by omega) (by omega)]
      refine Tot.bind0 (a := ()) (by unfold nn; rw [if_pos (by omega)]) (Tot.some_bind (Tot.bind0 hi0 (Tot.if_ (decide_eq_false (by omega)) (Tot.ret ?_))))
      rw [i64_small (x := ((m : Nat) : Int) + 1) (by omega) (by omega)]
      refine ⟨⟨m + 1, hmp, by show (m : Int) + 1 = _; omega, rfl⟩, ?_⟩
      show pre.length - ((m : Int) + 1).toNat < pre.length - ((m : Int)).toNat
      omega
    · have hme : m = pre.length := by omega
      subst hme
      cases rest with
      | nil =>
        have hr := hend (by simp)
        subst hr
        refine Tot.it rfl (Tot.ret ⟨_, rfl, ?_⟩)
        rw [if_pos rfl]
      | cons c t =>
        obtain ⟨hc1, hc2, hc3⟩ := hs c t rfl
        have hlt : pre.length < (pre ++ c :: t).length := by simp
        have hr := hmid hlt
        subst hr
        have hget : (pre ++ c :: t)[pre.length]'hlt = c := by simp
        rw [hget]
        refine Tot.if_ rfl ?_
        have hi0 : idx [c] 0 = some c := rfl
        have hpos : ((pre.length : Nat) : Int) > 0 → c.toNat ≠ 0 := fun h => hc2 (fun e => by rw [e] at h; simp at h)
        refine Tot.bindq (P := (· = false)) (Tot.ite (fun h => ?_) (fun h => ?_)) fun j hj => ?_
        · have h : ((pre.length : Nat) : Int) = 9 := beq_iff_eq.1 h
          have := hc3 (by omega)
          refine Tot.bind0 hi0 (Tot.if_ (decide_eq_false (by omega)) (Tot.ite (fun h2 => Tot.bind0 hi0 (Tot.ret ?_)) (fun h2 => Tot.ret rfl)))
          have := hpos (of_decide_eq_true h2)
          exact beq_eq_false_iff_ne.2 (by omega)
        · refine Tot.ite (fun h2 => Tot.bind0 hi0 (Tot.ret ?_)) (fun h2 => Tot.ret rfl)
          have := hpos (of_decide_eq_true h2)
          exact beq_eq_false_iff_ne.2 (by omega)
        subst hj
        refine Tot.if_ rfl (Tot.bind0 hi0 ?_)
        rw [i64_small (x := 7 * ((pre.length : Nat) : Int)) (by omega) (by omega)]
        refine Tot.bind0 (a := ()) (by unfold nn; rw [if_pos (by omega)]) (Tot.some_bind (Tot.bind0 hi0 (Tot.it (decide_eq_true (by omega)) ?_)))
        refine Tot.bindq (whole_tot (i64_range _).1 (i64_range _).2) fun w hw => Tot.ret ⟨_, rfl, ?_⟩
        rw [if_neg (by simp)]
        exact ⟨rfl, rfl⟩
  · subst hx
    exact Tot.contr hQ
end Go.Gv.P
namespace Go.Gv.P
open Go Go.Gv Go.Gv.D Go.Gv.R
set_option maxRecDepth 100000

theorem value_tot {pre rest : List UInt8} (hp : ∀ b ∈ pre, 128 ≤ b.toNat) (hl : pre.length ≤ 9) (hr : rest.length ≤ 2)
    (hs : ∀ c t, rest = c :: t → c.toNat < 128 ∧ (pre ≠ [] → c.toNat ≠ 0) ∧ (pre.length = 9 → c.toNat ≤ 1)) :
    Tot (fun fuel => packing_reader_value fuel (pre ++ rest, 0) (118, 1, false)) (fun r => if rest = [] then r.2.1 = 15 else r.2.1 = 0 ∧ r.2.2.2 = ((pre.length + 1 : Nat) : Int)) := by
  unfold packing_reader_value
  refine Tot.bindq width118 fun r hr0 => ?_
  subst hr0
  refine Tot.if_ rfl (Tot.it rfl (Tot.bindq (varied_tot hp hl hr hs) fun r hr1 => Tot.ret ?_))
  exact hr1
theorem Unpack_tot {pre rest : List UInt8} (hp : ∀ b ∈ pre, 128 ≤ b.toNat) (hl : pre.length ≤ 9) (hr : rest.length ≤ 2)
    (hs : ∀ c t, rest = c :: t → c.toNat < 128 ∧ (pre ≠ [] → c.toNat ≠ 0) ∧ (pre.length = 9 → c.toNat ≤ 1)) :
    Tot (fun fuel => packing_Unpack fuel oneF (pre ++ rest)) (fun r => (rest = [] → r.2 = (15, 0)) ∧ (2 ≤ rest.length → r.2 = (3, -2))) := by
  unfold packing_Unpack
  refine Tot.bindq Check1 fun r hr0 => ?_
  subst hr0
  refine Tot.if_ rfl ?_
  refine Tot.bindq (P := fun x => if rest = [] then ∃ r, x = .inr r ∧ r.2 = (15, 0) else ∃ st, x = .inl st ∧ st.2.2.2 = ((pre.length + 1 : Nat) : Int)) ?_ fun x hx => ?_
  · refine Tot.loop (fun st => (st.2.1 = 0 ∧ st.2.2.2.2 = 0 ∧ st.2.2.2.1 = pre ++ rest ∧ st.1 = []) ∨ (st.2.1 = 1 ∧ rest ≠ [] ∧ st.2.2.2.2 = ((pre.length + 1 : Nat) : Int))) (fun st => 1 - st.2.1.toNat) (.inl ⟨rfl, rfl, rfl, rfl⟩) fun st hI => ?_
    obtain ⟨vs, i, ⟨f1, f2⟩, d, p⟩ := st
    rcases hI with ⟨e1, e2, e3, e4⟩ | ⟨e1, e2, e3⟩
    · simp only at e1 e2 e3 e4
      subst e1 e2 e3 e4
      refine Tot.it rfl (Tot.bind0 (a := (118, 1, false)) rfl (Tot.bindq (value_tot hp hl hr hs) fun r hq => ?_))
      by_cases h0 : rest = []
      · rw [if_pos h0] at hq
        refine Tot.it (by rw [hq]; rfl) ?_
        unfold packing_at
        refine Tot.some_bind (Tot.ret ?_)
        show if rest = [] then _ else _
        rw [if_pos h0]
        exact ⟨_, rfl, by rw [hq]⟩
      · rw [if_neg h0] at hq
        obtain ⟨hq1, hq2⟩ := hq
        refine Tot.if_ (by rw [hq1]; rfl) ?_
        refine Tot.bindq (P := fun _ => True) (Tot.it rfl (Tot.bind0 (a := [r.1]) rfl (Tot.ret trivial))) fun x _ => Tot.ret ?_
        exact ⟨.inr ⟨rfl, h0, hq2⟩, by show 0 < 1; decide⟩
    · simp only at e1 e3
      subst e1 e3
      refine Tot.if_ rfl (Tot.ret ?_)
      show if rest = [] then _ else _
      rw [if_neg e2]
      exact ⟨_, rfl, rfl⟩
  · by_cases h0 : rest = []
    · rw [if_pos h0] at hx
      obtain ⟨r, hx, hr1⟩ := hx
      subst hx
      refine Tot.contr ⟨fun _ => hr1, fun h => ?_⟩
      rw [h0] at h
      simp at h
    · rw [if_neg h0] at hx
      obtain ⟨st, hx, hst⟩ := hx
      subst hx
      refine Tot.contl ?_
      rw [hst]
      refine Tot.ite (fun h => ?_) (fun h => Tot.ret ⟨fun e => absurd e h0, fun h2 => ?_⟩)
      · unfold packing_at
        exact Tot.some_bind (Tot.ret ⟨fun e => absurd e h0, fun _ => rfl⟩)
      · have h : ¬ ((pre.length + 1 : Nat) : Int) < ((pre ++ rest).length : Int) := of_decide_eq_false h
        rw [List.length_append] at h
        omega

theorem SameBytes_tot (a b : List UInt8) : Tot (fun n => ref4_SameBytes n a b) (· = decide (a = b)) := by
  unfold ref4_SameBytes
  refine Tot.some_bind (Tot.ret ?_)
  rw [str_eq, decide_eq_decide]
  exact ⟨fun h => by have := congrArg bytesOf h; rwa [bytes_str, bytes_str] at this, fun h => by rw [h]⟩
theorem vint_bound {n : Int} (h0 : -9223372036854775808 ≤ n) (h1 : n ≤ 9223372036854775807) : zig n < 128 ^ (9 + 1) := Nat.lt_of_lt_of_le (zig_lt h0 h1) (by decide)

theorem PackingShortest_tot {a b : Int} (ha0 : -9223372036854775808 ≤ a) (ha1 : a ≤ 9223372036854775807) (hb0 : -9223372036854775808 ≤ b) (hb1 : b ≤ 9223372036854775807) : Tot (fun n => law4_PackingShortest n a b) (· = true) := by
  unfold law4_PackingShortest
  have la := vint_len 9 (zig a)
  have lb := vint_len 9 (zig b)
  refine Tot.bindq (lawwhole_tot ha0 ha1) fun r hr => ?_
  subst hr
  refine Tot.bindq (Pack_tot ha0 ha1) fun ra hra => ?_
  subst hra
  refine Tot.bindq (lawwhole_tot hb0 hb1) fun r hr => ?_
  subst hr
  refine Tot.bindq (Pack_tot hb0 hb1) fun rb hrb => ?_
  subst hrb
  refine Tot.bindq Sizes1 fun rs hrs => ?_
  subst hrs
  refine Tot.bindq (P := (· = false)) (Tot.bindq packs_tot fun rp hrp => ?_) fun j hj => ?_
  · subst hrp
    refine Tot.if_ rfl (Tot.if_ rfl (Tot.if_ rfl (Tot.if_ rfl (Tot.if_ ?_ (Tot.if_ ?_ (Tot.if_ ?_ (Tot.if_ ?_ (Tot.ret ?_))))))))
    · exact beq_eq_false_iff_ne.2 (by show ¬ (((vint 9 (zig a)).length : Nat) : Int) = 0; omega)
    · exact decide_eq_false (by show ¬ (((vint 9 (zig a)).length : Nat) : Int) < 1; omega)
    · exact decide_eq_false (by show ¬ (((vint 9 (zig a)).length : Nat) : Int) > 10; omega)
    · exact decide_eq_false (by show ¬ (((vint 9 (zig b)).length : Nat) : Int) < 1; omega)
    · exact decide_eq_false (by show ¬ (((vint 9 (zig b)).length : Nat) : Int) > 10; omega)
  subst hj
  refine Tot.if_ rfl ?_
  have half : ∀ x : Int, -9223372036854775808 ≤ x → x ≤ 9223372036854775807 → Tot (fun _ => if (decide (x < 0)) = true then some (IntKind.i64.wrap ((-1) - x)) else some x) (· = ((zig x / 2 : Nat) : Int)) := fun x h0 h1 => by
    rw [zig_half]
    refine Tot.ite (fun h => Tot.ret ?_) (fun h => Tot.ret ?_)
    · have h := of_decide_eq_true h
      rw [if_pos h, i64_wrap (by omega) (by omega)]
    · rw [if_neg (of_decide_eq_false h)]
  refine Tot.bindq (half a ha0 ha1) fun x hx => ?_
  subst hx
  refine Tot.bindq (half b hb0 hb1) fun x hx => ?_
  subst hx
  have differ : a ≠ b → decide (vint 9 (zig a) = vint 9 (zig b)) = false := fun h => decide_eq_false fun e => h (zig_inj (vint_inj (vint_bound ha0 ha1) (vint_bound hb0 hb1) e))
  have hd : Tot (fun n => if (a != b) = true then (Option.bind (ref4_SameBytes n (vint 9 (zig a)) (vint 9 (zig b))) fun r395 => some r395) else some false) (· = false) := by
    refine Tot.ite (fun h => Tot.bindq (SameBytes_tot _ _) fun r hr => Tot.ret ?_) (fun h => Tot.ret rfl)
    rw [hr, differ (by simpa using h)]
  refine Tot.bindq (P := (· = false)) (Tot.ite (fun h => Tot.if_ ?_ hd) (fun h => hd)) fun j hj => ?_
  · have h := of_decide_eq_true h
    have := vint_mono 9 (zig a) (zig b) (by omega)
    exact decide_eq_false (by show ¬ (((vint 9 (zig a)).length : Nat) : Int) > (((vint 9 (zig b)).length : Nat) : Int); omega)
  subst hj
  refine Tot.if_ rfl ?_
  obtain ⟨pre, last, ev, g1, g2, g3, g4, g5⟩ := shape9 (zig_lt ha0 ha1)
  have hsub : sub (vint 9 (zig a)) 0 (IntKind.i64.wrap (((vint 9 (zig a)).length : Int) - 1)) = some (pre ++ []) := by
    rw [ev, i64_small (by simp <;> omega) (by simp <;> omega)]
    unfold sub
    rw [if_pos ⟨by omega, by simp <;> omega, by simp <;> omega⟩]
    congr 1
    simp
  refine Tot.bind0 hsub ?_
  refine Tot.bindq (Unpack_tot g1 g4 (by simp) (fun c t h => by cases h)) fun r1 ⟨hr1, _⟩ => ?_
  have hr1 := hr1 rfl
  have ha2 : app ([] : List UInt8) (vint 9 (zig a)) = some (vint 9 (zig a)) := by unfold app; rw [if_pos (by simp; omega)]; rfl
  refine Tot.bind0 ha2 ?_
  have ha3 : app (vint 9 (zig a)) [(0 : UInt8)] = some (pre ++ [last, 0]) := by
    unfold app
    rw [if_pos (by simp; omega), ev]
    simp
  refine Tot.bind0 ha3 ?_
  refine Tot.bindq (Unpack_tot (pre := pre) (rest := [last, 0]) g1 g4 (by simp) (fun c t h => by cases h; exact ⟨g2, g3, g5⟩)) fun r2 ⟨_, hr2⟩ => ?_
  have hr2 := hr2 (by simp)
  refine Tot.bindq (P := (· = true)) ?_ fun j hj => Tot.ret hj
  unfold ref4_At
  refine Tot.some_bind (Tot.it (by rw [hr1]; rfl) (Tot.some_bind (Tot.some_bind (Tot.ret ?_))))
  rw [hr2]
  rfl
theorem PackingShortest_said (a b : Int) (ha : inK .i64 a) (hb : inK .i64 b) (_ : 1 + 1 ≤ 1048576) : Tot (fun n => law4_PackingShortest n a b) (· = true) :=
  PackingShortest_tot (inK_i64 ha).1 (inK_i64 ha).2 (inK_i64 hb).1 (inK_i64 hb).2
end Go.Gv.P

