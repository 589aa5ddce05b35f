import Derived.Test.YtdpmkphjcjacfaaGreatDoorGt
import Derived.Test.YtdpmkphjcjacfaaGreatDoorD
set_option linter.all false
namespace Go.Gv.RI
open Go Go.Gv Go.Gv.D

/-! ### mixing -/
def mixI (x : Int) : Int :=
  let y := IntKind.u64.wrap (bwXor .u64 x (x.fdiv (2 ^ 30)) * 13787848793156543929)
  let z := IntKind.u64.wrap (bwXor .u64 y (y.fdiv (2 ^ 27)) * 10723151780598845931)
  bwXor .u64 z (z.fdiv (2 ^ 31))

def U (x : Int) : Prop := 0 ≤ x ∧ x < 18446744073709551616
/-! ### steps -/
def stp (c s : Int) : Int := IntKind.u64.wrap (IntKind.u64.wrap (s * 6364136223846793005) + c)
def it (c s : Int) : Nat → Int
  | 0 => s
  | k + 1 => stp c (it c s k)
/-! ### skipping: affine maps modulo 2^64 -/
/-! ### seeds -/
def okI (a : Bool × List Int) : Bool := decide (a.2.length ≤ 128) && (if a.2.length = 0 then !a.1 else a.2.getLast? != some 0)
end Go.Gv.RI
namespace Go.Gv.RI
open Go Go.Gv Go.Gv.D

/-! ### the generator has its full period -/
def aA (n : Nat) : Int := 6364136223846793005 ^ n
def aC (c : Int) : Nat → Int
  | 0 => 0
  | n + 1 => 6364136223846793005 * aC c n + c
theorem aA_add (m n : Nat) : aA (m + n) = aA m * aA n := Int.pow_add ..
theorem aC_add (c : Int) (m n : Nat) : aC c (m + n) = aA m * aC c n + aC c m := by
  induction m with
  | zero => simp [aA, aC]
  | succ m ih =>
    rw [show m + 1 + n = (m + n) + 1 by omega]
    show 6364136223846793005 * aC c (m + n) + c = aA (m + 1) * aC c n + (6364136223846793005 * aC c m + c)
    rw [ih, show aA (m + 1) = 6364136223846793005 * aA m by rw [aA_add, Int.mul_comm]; rfl]
    grind

/-- 2^k steps: s ↦ s + 2^k · (odd) modulo 2^(k+2) of s -/
def Jump (c : Int) (n k : Nat) : Prop := ∃ u d : Int, aA n = 1 + 2 ^ (k + 2) * u ∧ aC c n = 2 ^ k * (1 + 2 * d)
theorem Jump.one {c : Int} (hc : c % 2 = 1) : Jump c 1 0 := ⟨1591034055961698251, c / 2, by decide, by
  show 6364136223846793005 * 0 + c = 2 ^ 0 * (1 + 2 * (c / 2))
  omega⟩
theorem Jump.double {c : Int} {n k : Nat} (h : Jump c n k) : Jump c (n + n) (k + 1) := by
  obtain ⟨u, d, h1, h2⟩ := h
  refine ⟨u + 2 ^ (k + 1) * u * u, d + 2 ^ k * u + 2 * d * (2 ^ k * u), ?_, ?_⟩
  · rw [aA_add, h1, show (2 : Int) ^ (k + 1 + 2) = 8 * 2 ^ k by rw [Int.pow_add]; grind, show (2 : Int) ^ (k + 2) = 4 * 2 ^ k by rw [Int.pow_add]; grind, show (2 : Int) ^ (k + 1) = 2 * 2 ^ k by rw [Int.pow_add]; grind]
    grind
  · rw [aC_add, h1, h2, show (2 : Int) ^ (k + 2) = 4 * 2 ^ k by rw [Int.pow_add]; grind, show (2 : Int) ^ (k + 1) = 2 * 2 ^ k by rw [Int.pow_add]; grind]
    generalize (2 : Int) ^ k = q
    grind
theorem Jump.pow {c : Int} {n k : Nat} (h : Jump c n k) : ∀ i, Jump c (n * 2 ^ i) (k + i)
  | 0 => by simpa using h
  | i + 1 => by
    have := (Jump.pow h i).double
    rwa [show n * 2 ^ i + n * 2 ^ i = n * 2 ^ (i + 1) by rw [Nat.pow_succ, ← Nat.mul_assoc]; omega] at this
theorem Jump.odd {c : Int} {n k : Nat} (h : Jump c n k) : ∀ o, Jump c (n * (2 * o + 1)) k
  | 0 => by simpa using h
  | o + 1 => by
    obtain ⟨u, d, h1, h2⟩ := Jump.odd h o
    obtain ⟨v, e, g1, g2⟩ := h
    have hn : n * (2 * (o + 1) + 1) = n + (n + n * (2 * o + 1)) := by
      rw [show 2 * (o + 1) + 1 = 1 + (1 + (2 * o + 1)) by omega, Nat.mul_add, Nat.mul_add]
      omega
    rw [hn]
    refine ⟨u + v * (2 + 2 ^ (k + 2) * v) * (1 + 2 ^ (k + 2) * u), ?_, ?_, ?_⟩
    rotate_left
    · rw [aA_add, aA_add, h1, g1]
      grind
    · rw [aC_add, aC_add, h2, g1, g2, show (2 : Int) ^ (k + 2) = 4 * 2 ^ k by rw [Int.pow_add]; grind]
      have : ∀ p : Int, (1 + 4 * p * v) * ((1 + 4 * p * v) * (p * (1 + 2 * d)) + p * (1 + 2 * e)) + p * (1 + 2 * e) = p * (1 + 2 * (d + (2 * p * v) * (2 + 4 * p * v) * (1 + 2 * d) + (1 + 2 * p * v) * (1 + 2 * e))) := fun p => by grind
      exact this _

theorem Jump.of {c : Int} (hc : c % 2 = 1) {v o : Nat} : Jump c (2 ^ v * (2 * o + 1)) v := by
  have h := (Jump.one hc).pow v
  rw [Nat.one_mul, Nat.zero_add] at h
  exact h.odd o

/-- for each ending of seven bits a state whose number has its highest bit clear -/
def good (r : Int) : Option Int := (List.range 16).findSome? fun (i : Nat) => if mixI (r + 128 * (i : Int)) < 9223372036854775808 then some (r + 128 * (i : Int)) else none
end Go.Gv.RI
namespace Go.Gv.RI
open Go Go.Gv Go.Gv.D

/-! ### limbs -/
def val : List Int → Int
  | [] => 0
  | x :: xs => x + 4294967296 * val xs
def Dg (l : List Int) : Prop := ∀ x ∈ l, 0 ≤ x ∧ x < 4294967296
def Nz (l : List Int) : Prop := l = [] ∨ l.getLast? ≠ some 0

theorem val_append (a b : List Int) : val (a ++ b) = val a + 4294967296 ^ a.length * val b := by
  induction a with
  | nil => simp [val]
  | cons x a ih =>
    simp only [List.cons_append, val, ih, List.length_cons, Int.pow_succ]
    grind
theorem val_zeros : ∀ k, val (List.replicate k 0) = 0
  | 0 => rfl
  | k + 1 => by simp [List.replicate_succ, val, val_zeros k]
theorem Dg.append {a b : List Int} (ha : Dg a) (hb : Dg b) : Dg (a ++ b) := fun x hx => (List.mem_append.1 hx).elim (ha x) (hb x)
theorem Dg.left {a b : List Int} (h : Dg (a ++ b)) : Dg a := fun x hx => h x (List.mem_append_left _ hx)
theorem Dg.right {a b : List Int} (h : Dg (a ++ b)) : Dg b := fun x hx => h x (List.mem_append_right _ hx)
theorem val_bound {l : List Int} (h : Dg l) : 0 ≤ val l ∧ val l < 4294967296 ^ l.length := by
  induction l with
  | nil => simp [val]
  | cons x l ih =>
    have h1 := h x (List.mem_cons_self ..)
    have h2 := ih fun y hy => h y (List.mem_cons_of_mem _ hy)
    simp only [val, List.length_cons, Int.pow_succ]
    generalize (4294967296 : Int) ^ l.length = p at *
    omega
theorem val_big {l : List Int} (h : Dg l) (hn : Nz l) (hl : l ≠ []) : 4294967296 ^ (l.length - 1) ≤ val l := by
  obtain ⟨a, x, rfl⟩ : ∃ a x, l = a ++ [x] := ⟨l.dropLast, l.getLast hl, (List.dropLast_concat_getLast hl).symm⟩
  have hx : x ≠ 0 := fun e => by
    rcases hn with h | h
    · exact hl h
    · subst e; simp at h
  have h1 := h x (by simp)
  have h2 := val_bound h.left
  rw [val_append]
  simp only [List.length_append, List.length_singleton, Nat.add_sub_cancel, val]
  generalize hp : (4294967296 : Int) ^ a.length = p at *
  have hpp : 0 < p := by rw [← hp]; exact Int.pow_pos (by decide)
  have : p * 1 ≤ p * (x + 4294967296 * 0) := Int.mul_le_mul_of_nonneg_left (by omega) (by omega)
  omega
theorem pow_mono {a b : Nat} (h : a ≤ b) : (4294967296 : Int) ^ a ≤ 4294967296 ^ b := by
  obtain ⟨d, rfl⟩ := Nat.exists_eq_add_of_le h
  rw [Int.pow_add]
  have h1 : (0 : Int) < 4294967296 ^ a := Int.pow_pos (by decide)
  have h2 : (0 : Int) < 4294967296 ^ d := Int.pow_pos (by decide)
  have : (4294967296 : Int) ^ a * 1 ≤ 4294967296 ^ a * 4294967296 ^ d := Int.mul_le_mul_of_nonneg_left (by omega) (by omega)
  omega
/-! ### leading zeros are taken away -/
def trimLoop (fuel : Nat) (l : List Int) : Option (List Int) := loopN (fun (s3 : (List Int)) => (Option.bind (if (decide (((List.length s3 : Nat) : Int) > 0)) then (Option.bind (idx s3 (IntKind.i64.wrap (((List.length s3 : Nat) : Int) - 1))) fun x13 => (some ((x13 == 0)))) else (some (false))) fun (j10 : Bool) => (if j10 then (Option.bind (sub s3 0 (IntKind.i64.wrap (((List.length s3 : Nat) : Int) - 1))) fun x19 => (some (.inl x19))) else (some (.inr (s3)))))) fuel l

def Trim (l r : List Int) : Prop := (∃ k, l = r ++ List.replicate k 0) ∧ Nz r
theorem trim_tot {l : List Int} (hl : l.length < 4611686018427387904) : Tot (fun fuel => trimLoop fuel l) (Trim l) := by
  unfold trimLoop
  refine Tot.loop (fun st => ∃ k, l = st ++ List.replicate k 0) (fun st => st.length) ⟨0, by simp⟩ fun st ⟨k, hk⟩ => ?_
  have hsl : st.length ≤ l.length := by rw [hk]; simp
  by_cases h0 : st = []
  · subst h0
    refine Tot.bindq (P := fun j => j = false) (Tot.if_ rfl (Tot.ret rfl)) fun j hj => ?_
    subst hj
    exact Tot.if_ rfl (Tot.ret ⟨⟨k, hk⟩, .inl rfl⟩)
  · have hp : 0 < st.length := by
      cases st with
      | nil => exact absurd rfl h0
      | cons => simp
    have hw : IntKind.i64.wrap ((st.length : Int) - 1) = (st.length : Int) - 1 := i64_wrap (by omega) (by omega)
    rw [hw]
    have hi := idx_ok (xs := st) (i := (st.length : Int) - 1) (by omega) (by omega)
    have hlast : st.getLast? = some (st[((st.length : Int) - 1).toNat]'(by omega)) := by
      rw [List.getLast?_eq_getElem?, ← List.getElem?_eq_getElem]
      congr 1
      omega
    generalize (st[((st.length : Int) - 1).toNat]'(by omega)) = x at hi hlast
    refine Tot.bindq (P := fun j => j = (x == 0)) (Tot.it (decide_eq_true (by omega)) (Tot.bind0 hi (Tot.ret rfl))) fun j hj => ?_
    subst hj
    refine Tot.ite (fun hx => ?_) (fun hx => ?_)
    · have hx : x = 0 := by simpa using hx
      subst hx
      refine Tot.bind0 (sub_ok (by omega) (by omega) (by omega)) (Tot.ret ⟨⟨k + 1, ?_⟩, ?_⟩)
      · have e : st = st.dropLast ++ [0] := by
          have h1 := List.dropLast_concat_getLast h0
          have h2 : st.getLast h0 = 0 := by
            have := List.getLast?_eq_some_getLast h0
            rw [hlast] at this
            exact (Option.some.inj this).symm
          rw [h2] at h1
          exact h1.symm
        show l = (st.take ((st.length : Int) - 1).toNat).drop (0 : Int).toNat ++ _
        rw [show ((st.length : Int) - 1).toNat = st.length - 1 by omega, show (0 : Int).toNat = 0 from rfl, List.drop_zero, ← List.dropLast_eq_take, hk]
        conv => lhs; rw [e]
        rw [List.append_assoc, List.replicate_succ]
        rfl
      · show ((st.take ((st.length : Int) - 1).toNat).drop (0 : Int).toNat).length < st.length
        simp
        omega
    · have hx : x ≠ 0 := by simpa using hx
      refine Tot.ret ⟨⟨k, hk⟩, .inr ?_⟩
      rw [hlast]
      simpa using hx
theorem Trim.val {l r : List Int} (h : Trim l r) : val r = val l := by
  obtain ⟨⟨k, e⟩, _⟩ := h
  rw [e, val_append, val_zeros]
  omega
theorem Trim.nz {l r : List Int} (h : Trim l r) : Nz r := h.2
theorem Trim.len {l r : List Int} (h : Trim l r) : r.length ≤ l.length := by
  obtain ⟨⟨k, e⟩, _⟩ := h
  rw [e]; simp
/-! ### comparing -/
theorem cut {a : List Int} {i : Nat} (h : i < a.length) : a = a.take i ++ (a[i] :: a.drop (i + 1)) := by
  rw [← List.drop_eq_getElem_cons h, List.take_append_drop]
end Go.Gv.RI
namespace Go.Gv.RI
open Go Go.Gv Go.Gv.D

theorem val_snoc (l : List Int) (x : Int) : val (l ++ [x]) = val l + 4294967296 ^ l.length * x := by
  rw [val_append]; simp [val]
theorem val_take_succ {a : List Int} {i : Nat} (h : i < a.length) : val (a.take (i + 1)) = val (a.take i) + 4294967296 ^ i * a[i] := by
  rw [List.take_succ_eq_append_getElem h, val_snoc, List.length_take, Nat.min_eq_left (by omega)]
theorem Dg.take {a : List Int} (h : Dg a) (i : Nat) : Dg (a.take i) := fun x hx => h x (List.mem_of_mem_take hx)
theorem Dg.get {a : List Int} (h : Dg a) {i : Nat} (hi : i < a.length) : 0 ≤ a[i] ∧ a[i] < 4294967296 := h _ (List.getElem_mem hi)
theorem Dg.one {x : Int} (h : 0 ≤ x ∧ x < 4294967296) : Dg [x] := fun y hy => by simp at hy; subst hy; exact h
theorem i64_small {x : Int} (h : -4611686018427387904 ≤ x) (h' : x ≤ 4611686018427387904) : IntKind.i64.wrap x = x := i64_wrap (by omega) (by omega)
theorem u32_small {x : Int} (h : 0 ≤ x) (h' : x < 4294967296) : IntKind.u32.wrap x = x := by rw [u32_wrap]; omega
theorem idx_nat {α : Type} {xs : List α} {i : Nat} (h : i < xs.length) : idx xs (i : Int) = some xs[i] := idx_ok (by omega) (by omega)

/-! ### adding -/
/-! ### subtracting -/
end Go.Gv.RI
namespace Go.Gv.RI
open Go Go.Gv Go.Gv.D

/-- limbs of an integer's absolute value -/
def OkL (l : List Int) : Prop := Dg l ∧ Nz l ∧ l.length ≤ 128
def OkI (a : Bool × List Int) : Prop := OkL a.2 ∧ (a.2 = [] → a.1 = false)
def ival (a : Bool × List Int) : Int := if a.1 then - val a.2 else val a.2
def Big : Int := 4294967296 ^ 128

/-! ### validity -/
/-! ### small integers -/
/-! ### sums -/
end Go.Gv.RI
namespace Go.Gv.RI
open Go Go.Gv Go.Gv.D

/-! ### the number of bits -/
/-- r bits are needed for x -/
def Len (x : Int) (r : Int) : Prop := 0 ≤ r ∧ x < 2 ^ r.toNat ∧ (0 < r → 2 ^ (r.toNat - 1) ≤ x)

theorem Len.limbs {l : List Int} (h : Dg l) (hl : l ≠ []) {r : Int} (hr : Len (l.getLast hl) r) (hp : 0 < r) : Len (val l) (32 * ((l.length : Int) - 1) + r) := by
  have e := List.dropLast_concat_getLast hl
  generalize l.getLast hl = x at *
  generalize hd : l.dropLast = a at *
  subst e
  have ha := val_bound h.left
  rw [val_snoc]
  have hpow : (4294967296 : Int) ^ a.length = 2 ^ (32 * a.length) := by rw [show (4294967296 : Int) = 2 ^ 32 by decide, ← Int.pow_mul]
  obtain ⟨h1, h2, h3⟩ := hr
  have hlen : ((a ++ [x]).length : Int) - 1 = a.length := by simp
  rw [hlen]
  rw [hpow] at ha ⊢
  have hP : (0 : Int) < 2 ^ (32 * a.length) := Int.pow_pos (by decide)
  refine ⟨by omega, ?_, fun _ => ?_⟩
  · rw [show (32 * (a.length : Int) + r).toNat = 32 * a.length + r.toNat by omega, Int.pow_add]
    have : (2 : Int) ^ (32 * a.length) * (x + 1) ≤ 2 ^ (32 * a.length) * 2 ^ r.toNat := Int.mul_le_mul_of_nonneg_left (by omega) (by omega)
    rw [Int.mul_add] at this
    omega
  · rw [show (32 * (a.length : Int) + r).toNat - 1 = 32 * a.length + (r.toNat - 1) by omega, Int.pow_add]
    have : (2 : Int) ^ (32 * a.length) * 2 ^ (r.toNat - 1) ≤ 2 ^ (32 * a.length) * x := Int.mul_le_mul_of_nonneg_left (h3 hp) (by omega)
    omega

end Go.Gv.RI
namespace Go.Gv.RI
open Go Go.Gv Go.Gv.D

/-! ### drawing bits -/
/-! ### drawing below a number -/
/-! ### an integer as a small one -/
end Go.Gv.RI

