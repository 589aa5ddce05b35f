import Derived.Test.YtbiopeiafkldiaaGreatDoorU4
set_option linter.all false
namespace Go.Gv.P
open Go Go.Gv Go.Gv.D Go.Gv.R
set_option maxRecDepth 100000

/-! ### numerals, codes -/
def dg (b : UInt8) : Bool := decide (48 ≤ b.toNat) && decide (b.toNat ≤ 57)
def valN (acc : Nat) : List UInt8 → Nat
  | [] => acc
  | c :: r => valN (10 * acc + (c.toNat - 48)) r
theorem valN_ge : ∀ (l : List UInt8) (acc : Nat), acc ≤ valN acc l
  | [], _ => Nat.le_refl _
  | c :: r, acc => by
    have := valN_ge r (10 * acc + (c.toNat - 48))
    show acc ≤ valN (10 * acc + (c.toNat - 48)) r
    omega
theorem valN_snoc : ∀ (l : List UInt8) (acc : Nat) (c : UInt8), valN acc (l ++ [c]) = 10 * valN acc l + (c.toNat - 48)
  | [], _, _ => rfl
  | d :: r, acc, c => valN_snoc r (10 * acc + (d.toNat - 48)) c
theorem parse_dg : ∀ (l : List UInt8) (acc : Nat), (∀ b ∈ l, dg b = true) → Lib.parseUint10 acc l = .ok (valN acc l) ∨ (Lib.parseUint10 acc l = .range ∧ 9223372036854775808 ≤ valN acc l)
  | [], acc, _ => .inl rfl
  | c :: r, acc, h => by
    have hc : 48 ≤ c.toNat ∧ c.toNat ≤ 57 := by
      have := h c (List.mem_cons_self ..)
      simpa [dg] using this
    have hg := valN_ge r (10 * acc + (c.toNat - 48))
    have e : Lib.parseUint10 acc (c :: r) = if 1844674407370955162 ≤ acc then .range else if 18446744073709551616 ≤ acc * 10 + (c.toNat - 48) then .range else Lib.parseUint10 (acc * 10 + (c.toNat - 48)) r := by
      rw [Lib.parseUint10, if_pos hc]
    rw [e]
    show _ ∨ (_ ∧ 9223372036854775808 ≤ valN (10 * acc + (c.toNat - 48)) r)
    by_cases h1 : 1844674407370955162 ≤ acc
    · rw [if_pos h1]
      exact .inr ⟨rfl, by omega⟩
    rw [if_neg h1]
    by_cases h2 : 18446744073709551616 ≤ acc * 10 + (c.toNat - 48)
    · rw [if_pos h2]
      exact .inr ⟨rfl, by omega⟩
    rw [if_neg h2, Nat.mul_comm]
    exact parse_dg r _ fun b hb => h b (List.mem_cons_of_mem _ hb)
theorem atoi_dg {l : List UInt8} (h : ∀ b ∈ l, dg b = true) (hl : l ≠ []) : (Lib.atoiAll l = .ok (valN 0 l : Int)) ∨ (Lib.atoiAll l = .range ∧ 9223372036854775808 ≤ valN 0 l) := by
  cases l with
  | nil => exact absurd rfl hl
  | cons c r =>
    have hc : 48 ≤ c.toNat ∧ c.toNat ≤ 57 := by
      have := h c (List.mem_cons_self ..)
      simpa [dg] using this
    have hm : Lib.parseMag (c :: r) = Lib.parseUint10 0 (c :: r) := by unfold Lib.parseMag; rw [if_neg (by simp)]
    unfold Lib.atoiAll
    simp only
    rw [if_neg (show ¬ (c.toNat = 43 ∨ c.toNat = 45) by omega), hm]
    rcases parse_dg (c :: r) 0 h with e | ⟨e, e2⟩
    · rw [e]
      simp only
      have hn : ¬ c.toNat = 45 := by omega
      by_cases hb : 9223372036854775808 ≤ valN 0 (c :: r)
      · rw [if_pos ⟨hn, hb⟩]
        exact .inr ⟨rfl, hb⟩
      · rw [if_neg (by omega), if_neg (by omega)]
        rw [if_neg hn]; exact .inl rfl
    · rw [e]
      exact .inr ⟨rfl, e2⟩

theorem tens (x : UInt8) : ([48, 49, 50, 51, 52, 53, 54, 55, 56, 57] : List UInt8).contains x = dg x :=
  by
    have := beq_iff_eq.1 (byte_all (p := fun n => ([48, 49, 50, 51, 52, 53, 54, 55, 56, 57] : List UInt8).contains n.toUInt8 == (decide (48 ≤ n) && decide (n ≤ 57))) (by kernel_rfl) x)
    rw [show x.toNat.toUInt8 = x from UInt8.ofNat_toNat] at this
    exact this
def tw (L : List UInt8) : List UInt8 := L.takeWhile dg
def dw (L : List UInt8) : List UInt8 := L.dropWhile dg
theorem tw_dw (L : List UInt8) : tw L ++ dw L = L := List.takeWhile_append_dropWhile
theorem tw_dg (L : List UInt8) : ∀ b ∈ tw L, dg b = true := fun b hb => by
  have : ∀ (M : List UInt8), ∀ b ∈ M.takeWhile dg, dg b = true := by
    intro M
    induction M with
    | nil => intro b hb; simp at hb
    | cons c r ih =>
      intro b hb
      simp only [List.takeWhile_cons] at hb
      split at hb
      · rcases List.mem_cons.1 hb with e | e
        · subst e; assumption
        · exact ih b e
      · simp at hb
  exact this L b hb
theorem tw_take (L : List UInt8) : L.take (tw L).length = tw L := by
  have := List.take_left (l₁ := tw L) (l₂ := dw L)
  rwa [tw_dw] at this
theorem tw_drop (L : List UInt8) : L.drop (tw L).length = dw L := by
  have := List.drop_left (l₁ := tw L) (l₂ := dw L)
  rwa [tw_dw] at this
theorem tw_len (L : List UInt8) : (tw L).length + (dw L).length = L.length := by
  rw [← List.length_append, tw_dw]

end Go.Gv.P
namespace Go.Gv.P
open Go Go.Gv Go.Gv.D
set_option maxRecDepth 100000
theorem formats_tot : Tot (fun n => law4_formats n) (· = true) := Tot.of_all 100 (fun k => by kernel_rfl) rfl
end Go.Gv.P

