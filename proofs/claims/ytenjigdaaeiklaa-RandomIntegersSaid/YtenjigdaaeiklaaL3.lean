import Derived.Test.YtenjigdaaeiklaaL1
set_option linter.all false
namespace Go.Gv.R
open Go Go.Gv Go.Gv.D

/-! ### the generator has its full period -/
def aA (n : Nat) : Int := 6364136223846793005 ^ n
def aC (c : Int) : Nat → Int
  | 0 => 0
  | n + 1 => 6364136223846793005 * aC c n + c
theorem aA_add (m n : Nat) : aA (m + n) = aA m * aA n := Int.pow_add ..
theorem aC_add (c : Int) (m n : Nat) : aC c (m + n) = aA m * aC c n + aC c m := by
  induction m with
  | zero => simp [aA, aC]
  | succ m ih =>
    rw [show m + 1 + n = (m + n) + 1 by omega]
    show 6364136223846793005 * aC c (m + n) + c = aA (m + 1) * aC c n + (6364136223846793005 * aC c m + c)
    rw [ih, show aA (m + 1) = 6364136223846793005 * aA m by rw [aA_add, Int.mul_comm]; rfl]
    grind

def M64 : Int := 18446744073709551616
theorem it_eq (c s : Int) (hs : U s) : ∀ n, it c s n = (aA n * s + aC c n) % M64
  | 0 => by
    show s = _
    unfold U at hs
    simp only [aA, aC, M64]
    omega
  | n + 1 => by
    show stp c (it c s n) = _
    rw [it_eq c s hs n, stp, u64_wrap, u64_wrap]
    show ((aA n * s + aC c n) % M64 * 6364136223846793005 % M64 + c) % M64 = (aA (n + 1) * s + (6364136223846793005 * aC c n + c)) % M64
    rw [Int.add_emod, Int.emod_emod_of_dvd _ (Int.dvd_refl M64), Int.mul_emod, Int.emod_emod_of_dvd _ (Int.dvd_refl M64), ← Int.mul_emod, ← Int.add_emod,
      show aA (n + 1) = aA n * 6364136223846793005 by rw [aA_add]; rfl]
    congr 1
    grind

/-- 2^k steps: s ↦ s + 2^k · (odd) modulo 2^(k+2) of s -/
def Jump (c : Int) (n k : Nat) : Prop := ∃ u d : Int, aA n = 1 + 2 ^ (k + 2) * u ∧ aC c n = 2 ^ k * (1 + 2 * d)
theorem Jump.one {c : Int} (hc : c % 2 = 1) : Jump c 1 0 := ⟨1591034055961698251, c / 2, by decide, by
  show 6364136223846793005 * 0 + c = 2 ^ 0 * (1 + 2 * (c / 2))
  omega⟩
theorem Jump.double {c : Int} {n k : Nat} (h : Jump c n k) : Jump c (n + n) (k + 1) := by
  obtain ⟨u, d, h1, h2⟩ := h
  refine ⟨u + 2 ^ (k + 1) * u * u, d + 2 ^ k * u + 2 * d * (2 ^ k * u), ?_, ?_⟩
  · rw [aA_add, h1, show (2 : Int) ^ (k + 1 + 2) = 8 * 2 ^ k by rw [Int.pow_add]; grind, show (2 : Int) ^ (k + 2) = 4 * 2 ^ k by rw [Int.pow_add]; grind, show (2 : Int) ^ (k + 1) = 2 * 2 ^ k by rw [Int.pow_add]; grind]
    grind
  · rw [aC_add, h1, h2, show (2 : Int) ^ (k + 2) = 4 * 2 ^ k by rw [Int.pow_add]; grind, show (2 : Int) ^ (k + 1) = 2 * 2 ^ k by rw [Int.pow_add]; grind]
    generalize (2 : Int) ^ k = q
    grind
theorem Jump.pow {c : Int} {n k : Nat} (h : Jump c n k) : ∀ i, Jump c (n * 2 ^ i) (k + i)
  | 0 => by simpa using h
  | i + 1 => by
    have := (Jump.pow h i).double
    rwa [show n * 2 ^ i + n * 2 ^ i = n * 2 ^ (i + 1) by rw [Nat.pow_succ, ← Nat.mul_assoc]; omega] at this
theorem Jump.odd {c : Int} {n k : Nat} (h : Jump c n k) : ∀ o, Jump c (n * (2 * o + 1)) k
  | 0 => by simpa using h
  | o + 1 => by
    obtain ⟨u, d, h1, h2⟩ := Jump.odd h o
    obtain ⟨v, e, g1, g2⟩ := h
    have hn : n * (2 * (o + 1) + 1) = n + (n + n * (2 * o + 1)) := by
      rw [show 2 * (o + 1) + 1 = 1 + (1 + (2 * o + 1)) by omega, Nat.mul_add, Nat.mul_add]
      omega
    rw [hn]
    refine ⟨u + v * (2 + 2 ^ (k + 2) * v) * (1 + 2 ^ (k + 2) * u), ?_, ?_, ?_⟩
    rotate_left
    · rw [aA_add, aA_add, h1, g1]
      grind
    · rw [aC_add, aC_add, h2, g1, g2, show (2 : Int) ^ (k + 2) = 4 * 2 ^ k by rw [Int.pow_add]; grind]
      have : ∀ p : Int, (1 + 4 * p * v) * ((1 + 4 * p * v) * (p * (1 + 2 * d)) + p * (1 + 2 * e)) + p * (1 + 2 * e) = p * (1 + 2 * (d + (2 * p * v) * (2 + 4 * p * v) * (1 + 2 * d) + (1 + 2 * p * v) * (1 + 2 * e))) := fun p => by grind
      exact this _

theorem Jump.of {c : Int} (hc : c % 2 = 1) {v o : Nat} : Jump c (2 ^ v * (2 * o + 1)) v := by
  have h := (Jump.one hc).pow v
  rw [Nat.one_mul, Nat.zero_add] at h
  exact h.odd o

/-- every number with the same last bits is met -/
theorem reach {c : Int} {n v : Nat} (h : Jump c n v) {s x : Int} (hx : (x - s) % 2 ^ v = 0) : ∀ i, ∃ e : Nat, (x - (aA (n * e) * s + aC c (n * e))) % 2 ^ (v + i) = 0
  | 0 => ⟨0, by simpa [aA, aC] using hx⟩
  | i + 1 => by
    obtain ⟨e, he⟩ := reach h hx i
    obtain ⟨u, d, h1, h2⟩ := h.pow i
    generalize hy : aA (n * e) * s + aC c (n * e) = y at he
    obtain ⟨z, hz⟩ : ∃ z, x - y = 2 ^ (v + i) * z := ⟨(x - y) / 2 ^ (v + i), by have := Int.emod_add_mul_ediv (x - y) (2 ^ (v + i)); rw [he] at this; omega⟩
    have hp : (2 : Int) ^ (v + (i + 1)) = 2 ^ (v + i) * 2 := by rw [show v + (i + 1) = (v + i) + 1 by omega, Int.pow_succ]
    rcases (by omega : z % 2 = 0 ∨ z % 2 = 1) with h0 | h0
    · refine ⟨e, ?_⟩
      rw [hy, hz, hp, Int.mul_emod_mul_of_pos _ _ (Int.pow_pos (by decide)), h0, Int.mul_zero]
    · refine ⟨e + 2 ^ i, ?_⟩
      have e1 : n * (e + 2 ^ i) = n * 2 ^ i + n * e := by rw [Nat.mul_add]; omega
      rw [e1, aA_add, aC_add]
      have e2 : x - (aA (n * 2 ^ i) * aA (n * e) * s + (aA (n * 2 ^ i) * aC c (n * e) + aC c (n * 2 ^ i))) = 2 ^ (v + i) * (z - 1 - 2 * d - 4 * u * y) := by
        rw [h1, h2, show (2 : Int) ^ (v + i + 2) = 4 * 2 ^ (v + i) by rw [Int.pow_add]; grind, ← hy]
        rw [← hy] at hz
        grind
      rw [e2, hp, Int.mul_emod_mul_of_pos _ _ (Int.pow_pos (by decide)), show (z - 1 - 2 * d - 4 * u * y) % 2 = 0 by
        rw [Int.mul_assoc]; omega, Int.mul_zero]

theorem split2 : ∀ n : Nat, 0 < n → ∃ v o, n = 2 ^ v * (2 * o + 1) := by
  intro n
  induction n using Nat.strongRecOn with
  | _ n ih =>
    intro hn
    rcases Nat.mod_two_eq_zero_or_one n with h | h
    · obtain ⟨v, o, e⟩ := ih (n / 2) (by omega) (by omega)
      exact ⟨v + 1, o, by rw [Nat.pow_succ, show 2 ^ v * 2 * (2 * o + 1) = 2 * (2 ^ v * (2 * o + 1)) by grind, ← e]; omega⟩
    · exact ⟨0, n / 2, by omega⟩

/-- for each ending of seven bits a state whose number has its highest bit clear -/
def good (r : Int) : Option Int := (List.range 16).findSome? fun (i : Nat) => if mixI (r + 128 * (i : Int)) < 9223372036854775808 then some (r + 128 * (i : Int)) else none
theorem good_all : ((List.range 128).all fun r => match good (r : Int) with | some x => decide (mixI x < 9223372036854775808) && decide (0 ≤ x) && decide (x < 18446744073709551616) && decide (x % 128 = (r : Int)) | none => false) = true := by kernel_rfl

theorem low_draw {c s : Int} (hc : c % 2 = 1) (hs : U s) {n : Nat} (hn : 0 < n) (hn' : n ≤ 128) : ∃ e : Nat, mixI (it c s (n * (e + 1))) < 9223372036854775808 := by
  obtain ⟨v, o, hv⟩ := split2 n hn
  have hv7 : v ≤ 7 := by
    rcases Nat.lt_or_ge 7 v with h | h
    · have : 2 ^ 8 ≤ 2 ^ v := Nat.pow_le_pow_right (by decide) h
      have h2 : 2 ^ v * 1 ≤ 2 ^ v * (2 * o + 1) := Nat.mul_le_mul_left _ (by omega)
      omega
    · exact h
  have hU1 := U_it hs n (c := c)
  generalize hs1 : it c s n = s1 at *
  have hr := List.all_eq_true.1 good_all (s1 % 128).toNat (List.mem_range.2 (by omega))
  rw [show (((s1 % 128).toNat : Nat) : Int) = s1 % 128 by omega] at hr
  cases hg : good (s1 % 128) with
  | none => rw [hg] at hr; cases hr
  | some x =>
    rw [hg] at hr
    simp only [Bool.and_eq_true, decide_eq_true_eq] at hr
    obtain ⟨⟨⟨h1, h2⟩, h3⟩, h4⟩ := hr
    have hx : (x - s1) % 2 ^ v = 0 := by
      have h128 : (x - s1) % 128 = 0 := by omega
      have hd : (2 : Int) ^ v ∣ 128 := by
        have : (128 : Int) = 2 ^ v * 2 ^ (7 - v) := by
          rw [← Int.pow_add, show v + (7 - v) = 7 by omega]; rfl
        exact ⟨_, this⟩
      exact Int.emod_eq_zero_of_dvd (Int.dvd_trans hd (Int.dvd_of_emod_eq_zero h128))
    have hj : Jump c n v := by rw [hv]; exact Jump.of hc
    obtain ⟨e, he⟩ := reach hj hx (64 - v)
    rw [show v + (64 - v) = 64 by omega] at he
    refine ⟨e, ?_⟩
    have e1 : it c s (n * (e + 1)) = x := by
      have : it c s (n + n * e) = it c s1 (n * e) := by rw [← hs1]; exact (it_add c s n (n * e)).symm
      rw [show n * (e + 1) = n + n * e by rw [Nat.mul_add]; omega, this, it_eq c s1 hU1]
      have he' : (x - (aA (n * e) * s1 + aC c (n * e))) % M64 = 0 := he
      unfold M64 at *
      omega
    rw [e1]
    exact h1
end Go.Gv.R
