import Derived.Test.YtaeeniomdicclaaDoorQ1
set_option linter.all false
namespace Go.Gv.P
open Go Go.Gv Go.Gv.D Go.Gv.R Go.Lib
set_option maxRecDepth 100000

/-! Own work: literals are apart. -/
def unhex (b : UInt8) : Nat := if b.toNat < 58 then b.toNat - 48 else b.toNat - 87
def dec (l : List UInt8) : UInt8 :=
  match l with
  | [] => 0
  | x :: r => if x = 92 then (match r with
    | [] => 0
    | y :: r2 => if y = 110 then 10 else if y = 116 then 9 else if y = 120 then UInt8.ofNat (16 * unhex (r2.getD 0 0) + unhex (r2.getD 1 0)) else y) else x
theorem unhex_all : (List.range 256).all (fun n => UInt8.ofNat (16 * unhex (hx (n / 16)) + unhex (hx (n % 16))) == UInt8.ofNat n) = true := by kernel_rfl
theorem dec_esc {m : UInt8} (hm : m = 34 ∨ m = 39) (wide : Bool) (c : UInt8) (r : List UInt8) : dec (esc m wide c ++ r) = c := by
  unfold esc
  split
  · rename_i h; subst h; rfl
  split
  · rename_i h; subst h; rfl
  split
  · rename_i h0 h1 h
    have hc : c ≠ 110 ∧ c ≠ 116 ∧ c ≠ 120 := by
      rcases h with h | h
      · subst h; decide
      · subst h
        rcases hm with h | h <;> subst h <;> decide
    show dec (92 :: c :: r) = c
    simp [dec, hc]
  split
  · have := List.all_eq_true.1 unhex_all c.toNat (List.mem_range.2 (byte_lt c))
    have := eq_of_beq this
    rw [UInt8.ofNat_toNat] at this
    show dec (92 :: 120 :: hx (c.toNat / 16) :: hx (c.toNat % 16) :: r) = c
    simpa [dec] using this
  · rename_i h0 h1 h h2
    have hc : c ≠ 92 := fun e => h (.inl e)
    show dec (c :: r) = c
    simp [dec, hc]
theorem esc_pos (m : UInt8) (wide : Bool) (c : UInt8) : 1 ≤ (esc m wide c).length := by
  unfold esc
  repeat' split
  all_goals simp
theorem flat_pos (m : UInt8) (wide : Bool) : ∀ l : List UInt8, l.length ≤ (l.flatMap (esc m wide)).length
  | [] => by simp
  | c :: l => by
    have := esc_pos m wide c
    have := flat_pos m wide l
    rw [List.flatMap_cons, List.length_append, List.length_cons]; omega
theorem mk_or (l : List UInt8) : mk l = 34 ∨ mk l = 39 := by unfold mk; split <;> simp
theorem flat_inj {m : UInt8} (hm : m = 34 ∨ m = 39) (wide : Bool) : ∀ {l l' : List UInt8}, l.flatMap (esc m wide) = l'.flatMap (esc m wide) → l = l'
  | [], [], _ => rfl
  | [], c :: l', h => by
    have h := congrArg List.length h
    have := esc_pos m wide c
    rw [List.flatMap_cons, List.length_append] at h
    simp only [List.flatMap_nil, List.length_nil] at h; omega
  | c :: l, [], h => by
    have h := congrArg List.length h
    have := esc_pos m wide c
    rw [List.flatMap_cons, List.length_append] at h
    simp only [List.flatMap_nil, List.length_nil] at h; omega
  | c :: l, c' :: l', h => by
    rw [List.flatMap_cons, List.flatMap_cons] at h
    have h1 := congrArg dec h
    rw [dec_esc hm, dec_esc hm] at h1
    subst h1
    rw [flat_inj hm wide (List.append_cancel_left h)]
theorem lit_inj {pre l l' : List UInt8} {wide : Bool} (h : lit pre l wide = lit pre l' wide) : l = l' := by
  unfold lit at h
  simp only [List.append_assoc] at h
  have h := List.append_cancel_left h
  have h1 : mk l = mk l' := (List.cons.inj h).1
  have h2 := (List.cons.inj h).2
  rw [h1] at h2
  exact flat_inj (mk_or l') wide (List.append_cancel_right h2)
theorem lit_iff {pre l l' : List UInt8} {wide : Bool} : decide (strOf (lit pre l wide) = strOf (lit pre l' wide)) = decide (strOf l = strOf l') := by
  refine decide_eq_decide.2 ⟨fun h => ?_, fun h => ?_⟩
  · have h := congrArg bytesOf h
    rw [bytes_str, bytes_str] at h
    rw [lit_inj h]
  · have h := congrArg bytesOf h
    rw [bytes_str, bytes_str] at h
    rw [h]
theorem hx_low : (List.range 16).all (fun n => decide (48 ≤ (hx n).toNat) && decide ((hx n).toNat ≤ 102)) = true := by kernel_rfl
theorem esc_shown {m : UInt8} (hm : m = 34 ∨ m = 39) (c : UInt8) : ∀ b ∈ esc m true c, 32 ≤ b.toNat ∧ b.toNat ≠ 127 := by
  intro b hb
  have hcb := byte_lt c
  unfold esc at hb
  split at hb
  · simp at hb; rcases hb with h | h <;> subst h <;> decide
  split at hb
  · simp at hb; rcases hb with h | h <;> subst h <;> decide
  split at hb
  · rename_i h
    simp at hb
    rcases hb with e | e
    · subst e; decide
    · subst e
      rcases h with h | h
      · subst h; decide
      · subst h; rcases hm with h | h <;> subst h <;> decide
  split at hb
  · have k : ∀ n, n < 16 → 48 ≤ (hx n).toNat ∧ (hx n).toNat ≤ 102 := fun n hn => by
      have := List.all_eq_true.1 hx_low n (List.mem_range.2 hn)
      simpa using this
    have k1 := k (c.toNat / 16) (by omega)
    have k2 := k (c.toNat % 16) (by omega)
    simp only [List.mem_cons, List.not_mem_nil, or_false] at hb
    rcases hb with h | h | h | h <;> subst h
    · decide
    · decide
    · omega
    · omega
  · rename_i h
    simp at hb
    subst hb
    omega
theorem lit_shown (l : List UInt8) : ∀ b ∈ lit [] l true, 32 ≤ b.toNat ∧ b.toNat ≠ 127 := by
  intro b hb
  have hm := mk_or l
  have hk : 32 ≤ (mk l).toNat ∧ (mk l).toNat ≠ 127 := by rcases hm with h | h <;> rw [h] <;> decide
  unfold lit at hb
  simp only [List.nil_append, List.mem_append, List.mem_singleton, List.mem_flatMap] at hb
  rcases hb with (h | ⟨c, _, h⟩) | h
  · subst h; exact hk
  · exact esc_shown hm c b h
  · subst h; exact hk
theorem lit_apart (l l' : List UInt8) : decide (strOf (lit [] l true) = strOf (lit [98] l' false)) = false := by
  refine decide_eq_false fun h => ?_
  have h := congrArg bytesOf h
  rw [bytes_str, bytes_str] at h
  unfold lit at h
  have h1 : mk l = 98 := (List.cons.inj h).1
  rcases mk_or l with e | e <;> rw [e] at h1 <;> exact absurd h1 (by decide)
theorem lit_size {pre l : List UInt8} {wide : Bool} : pre.length + l.length + 2 ≤ (lit pre l wide).length ∧ (lit pre l wide).length ≤ pre.length + 4 * l.length + 2 := by
  have h1 := flat_pos (mk l) wide l
  have h2 := flat_len (mk l) wide l
  unfold lit
  simp only [List.length_append, List.length_cons, List.length_nil]
  omega
end Go.Gv.P

