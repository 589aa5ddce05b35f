import Derived.Test.YtlclmpegnkomcaaDoorU1
set_option linter.all false
namespace Go.Gv.R
open Go Go.Gv Go.Gv.D Go.Lib

theorem i32_small {x : Int} (h : 0 ≤ x) (h' : x < 2147483648) : IntKind.i32.wrap x = x := by
  simp only [IntKind.wrap, IntKind.signed, IntKind.bits, Bool.true_and]
  rw [if_neg (by simp; omega)]
  omega
theorem or32 (a b k : Nat) (hb : b < 2 ^ k) (h : 2 ^ k * a + b < 2147483648) : bwOr .i32 ((2 ^ k * a : Nat) : Int) (b : Int) = ((2 ^ k * a + b : Nat) : Int) := by
  unfold bwOr
  rw [show IntKind.i32.bits = 32 from rfl, ofInt_nat, ofInt_nat, BitVec.toNat_or, BitVec.toNat_ofNat, BitVec.toNat_ofNat]
  rw [Nat.mod_eq_of_lt (by omega), Nat.mod_eq_of_lt (by omega), ← Nat.two_pow_add_eq_or_of_lt hb]
  exact i32_small (by omega) (by omega)
theorem and_u8 {b : Nat} (h : b < 256) : bwAnd .u8 (b : Int) 7 = ((b % 8 : Nat) : Int) ∧ bwAnd .u8 (b : Int) 15 = ((b % 16 : Nat) : Int) ∧ bwAnd .u8 (b : Int) 31 = ((b % 32 : Nat) : Int) ∧ bwAnd .u8 (b : Int) 63 = ((b % 64 : Nat) : Int) := by
  have k : ((List.range 256).all fun b => decide (bwAnd .u8 ((b : Nat) : Int) 7 = ((b % 8 : Nat) : Int)) && (decide (bwAnd .u8 ((b : Nat) : Int) 15 = ((b % 16 : Nat) : Int)) && (decide (bwAnd .u8 ((b : Nat) : Int) 31 = ((b % 32 : Nat) : Int)) && decide (bwAnd .u8 ((b : Nat) : Int) 63 = ((b % 64 : Nat) : Int))))) = true := by kernel_rfl
  have := List.all_eq_true.1 k b (List.mem_range.2 h)
  simpa only [Bool.and_eq_true, decide_eq_true_eq] using this
theorem sh32 (a k : Nat) (h : 2 ^ k * a < 2147483648) : IntKind.i32.wrap (IntKind.i32.wrap (a : Int) * 2 ^ k) = ((2 ^ k * a : Nat) : Int) := by
  have hp := Nat.two_pow_pos k
  have ha : a ≤ 2 ^ k * a := Nat.le_mul_of_pos_left _ hp
  have e : (a : Int) * 2 ^ k = ((2 ^ k * a : Nat) : Int) := by rw [Nat.mul_comm]; simp
  rw [i32_small (x := (a : Int)) (by omega) (by omega), e, i32_small (by omega) (by omega)]
theorem slow_byte {b : Nat} (h : b < 256) (hf : 240 ≤ firstT b) : bwOr .i32 (bwAndNot .i32 (IntKind.i32.wrap (b : Int)) ((IntKind.i32.wrap (IntKind.i32.wrap (firstT b : Int) * 2 ^ 31)).fdiv (2 ^ 31))) (bwAnd .i32 65533 ((IntKind.i32.wrap (IntKind.i32.wrap (firstT b : Int) * 2 ^ 31)).fdiv (2 ^ 31))) = if firstT b = 240 then (b : Int) else 65533 := by
  have k : ((List.range 256).all fun b => !(Nat.ble 240 (firstT b)) || decide (bwOr .i32 (bwAndNot .i32 (IntKind.i32.wrap ((b : Nat) : Int)) ((IntKind.i32.wrap (IntKind.i32.wrap (firstT b : Int) * 2 ^ 31)).fdiv (2 ^ 31))) (bwAnd .i32 65533 ((IntKind.i32.wrap (IntKind.i32.wrap (firstT b : Int) * 2 ^ 31)).fdiv (2 ^ 31))) = if firstT b = 240 then ((b : Nat) : Int) else 65533)) = true := by kernel_rfl
  have := List.all_eq_true.1 k b (List.mem_range.2 h)
  rw [Nat.ble_eq_true_of_le hf] at this
  simpa only [Bool.not_true, Bool.false_or, decide_eq_true_eq] using this
theorem firstT_240 {b : Nat} (h : 240 ≤ firstT b) : firstT b = 240 ∨ firstT b = 241 := by
  have : firstT b = 240 ∨ firstT b = 241 ∨ firstT b < 240 := by unfold firstT; (repeat' split) <;> omega
  omega
theorem first_240 {b : Nat} (h : firstT b = 240) : b < 128 := by
  unfold firstT at h
  (repeat' split at h) <;> simp_all
theorem getD_idx {l : List UInt8} {i : Nat} (h : i < l.length) : idx l (i : Int) = some (l.getD i 0) := by
  rw [idx_nat h]; simp [h]
theorem decodeRuneSlow_tot {l : List UInt8} (hl : 0 < l.length) : Tot (fun fuel => utf8_decodeRuneSlow fuel l) (fun r => r = (((decodeL l).1 : Int), ((decodeL l).2 : Int))) := by
  unfold utf8_decodeRuneSlow
  have b0 := byte_lt (l.getD 0 0)
  have b1 := byte_lt (l.getD 1 0)
  have b2 := byte_lt (l.getD 2 0)
  have b3 := byte_lt (l.getD 3 0)
  refine Tot.if_ (decide_eq_false (by omega)) (Tot.bind0 (getD_idx hl) (Tot.bind0 (first_at b0) ?_))
  obtain ⟨f1, f2, f3⟩ := first_parts b0
  rw [f1] at *
  rw [decodeL_N]
  refine Tot.ite (fun h => ?_) (fun h => ?_)
  · have h : 240 ≤ firstT (l.getD 0 0).toNat := by have : ((firstT (l.getD 0 0).toNat : Nat) : Int) ≥ 240 := of_decide_eq_true h; omega
    refine Tot.some_bind (Tot.bind0 (getD_idx hl) (Tot.some_bind (Tot.ret ?_)))
    rw [slow_byte b0 h]
    rcases firstT_240 h with e | e
    · rw [if_pos e, ascii_eq _ _ _ _ _ e]; rfl
    · rw [if_neg (by omega), bad_eq _ _ _ _ _ b0 e]; rfl
  · have h : firstT (l.getD 0 0).toNat < 240 := by have : ¬ ((firstT (l.getD 0 0).toNat : Nat) : Int) ≥ 240 := of_decide_eq_false h; omega
    have hs := slow_eq l.length (l.getD 0 0).toNat (l.getD 1 0).toNat (l.getD 2 0).toNat (l.getD 3 0).toNat hl b1 b2 b3 h
    have hlow := firstT_low h
    have hsz : 2 ≤ firstT (l.getD 0 0).toNat % 8 ∧ firstT (l.getD 0 0).toNat % 8 ≤ 4 := by
      rcases hlow with c | c | c | c | c | c | c
      · rw [firstT_C2 c]; decide
      · rw [firstT_E0 c]; decide
      · rw [firstT_E1 c]; decide
      · rw [firstT_ED c]; decide
      · rw [firstT_F0 c]; decide
      · rw [firstT_F1 c]; decide
      · rw [firstT_F4 c]; decide
    refine Tot.some_bind ?_
    rw [f2, f3]
    refine Tot.bind0 (acc_at (by omega)) ?_
    rw [← hs]
    unfold slowN
    generalize accLo (firstT (l.getD 0 0).toNat / 16) = lo
    generalize accHi (firstT (l.getD 0 0).toNat / 16) = hi
    generalize firstT (l.getD 0 0).toNat % 8 = sz at hsz
    refine Tot.ite (fun q => ?_) (fun q => ?_)
    · have q : (l.length : Int) < (sz : Int) := of_decide_eq_true q
      exact Tot.ret (by rw [if_pos (by omega)]; rfl)
    have q : ¬ (l.length : Int) < (sz : Int) := of_decide_eq_false q
    rw [if_neg (by omega)]
    refine Tot.bind0 (getD_idx (i := 1) (by omega)) (Tot.bindq (P := fun r => r = decide ((l.getD 1 0).toNat < lo ∨ hi < (l.getD 1 0).toNat)) ?_ fun r hr => ?_)
    · refine Tot.ite (fun q1 => ?_) (fun q1 => ?_)
      · have q1 : ((l.getD 1 0).toNat : Int) < (lo : Int) := of_decide_eq_true q1
        exact Tot.ret (decide_eq_true (.inl (by omega))).symm
      · have q1 : ¬ ((l.getD 1 0).toNat : Int) < (lo : Int) := of_decide_eq_false q1
        exact Tot.ret (decide_eq_decide.2 ⟨fun h => .inr (by dsimp only at h; omega), fun h => by dsimp only; omega⟩)
    subst hr
    refine Tot.ite (fun q1 => ?_) (fun q1 => ?_)
    · rw [if_pos (of_decide_eq_true q1)]; exact Tot.ret rfl
    rw [if_neg (of_decide_eq_false q1)]
    refine Tot.ite (fun q2 => ?_) (fun q2 => ?_)
    · have q2 : (sz : Int) ≤ 2 := of_decide_eq_true q2
      rw [if_pos (by omega)]
      refine Tot.some_bind (Tot.ret ?_)
      rw [(and_u8 b0).2.2.1, (and_u8 b1).2.2.2, sh32 _ 6 (by omega), i32_small (by omega) (by omega), or32 _ _ 6 (by omega) (by omega), Nat.mul_comm]
      rfl
    have q2 : ¬ (sz : Int) ≤ 2 := of_decide_eq_false q2
    rw [if_neg (by omega)]
    refine Tot.bind0 (getD_idx (i := 2) (by omega)) (Tot.ite (fun q3 => ?_) (fun q3 => ?_))
    · have q3 : (l.getD 2 0).toNat < 128 ∨ 191 < (l.getD 2 0).toNat := by
        rcases Bool.or_eq_true_iff.1 q3 with h | h
        · have : ((l.getD 2 0).toNat : Int) < 128 := of_decide_eq_true h; omega
        · have : 191 < ((l.getD 2 0).toNat : Int) := of_decide_eq_true h; omega
      rw [if_pos q3]; exact Tot.ret rfl
    have q3 : ¬ ((l.getD 2 0).toNat < 128 ∨ 191 < (l.getD 2 0).toNat) := fun h => by
      have : (decide (((l.getD 2 0).toNat : Int) < 128) || decide (191 < ((l.getD 2 0).toNat : Int))) = true := Bool.or_eq_true_iff.2 (by
        rcases h with h | h
        · exact .inl (decide_eq_true (by omega))
        · exact .inr (decide_eq_true (by omega)))
      rw [this] at q3; cases q3
    rw [if_neg q3]
    refine Tot.ite (fun q4 => ?_) (fun q4 => ?_)
    · have q4 : (sz : Int) ≤ 3 := of_decide_eq_true q4
      rw [if_pos (by omega)]
      refine Tot.some_bind (Tot.ret ?_)
      rw [(and_u8 b0).2.1, (and_u8 b1).2.2.2, (and_u8 b2).2.2.2, sh32 _ 12 (by omega), sh32 _ 6 (by omega), i32_small (by omega) (by omega), or32 _ _ 12 (by omega) (by omega), show 2 ^ 12 * ((l.getD 0 0).toNat % 16) + 2 ^ 6 * ((l.getD 1 0).toNat % 64) = 2 ^ 6 * ((l.getD 0 0).toNat % 16 * 64 + (l.getD 1 0).toNat % 64) by omega, or32 _ _ 6 (by omega) (by omega), show 2 ^ 6 * ((l.getD 0 0).toNat % 16 * 64 + (l.getD 1 0).toNat % 64) + (l.getD 2 0).toNat % 64 = (l.getD 0 0).toNat % 16 * 4096 + (l.getD 1 0).toNat % 64 * 64 + (l.getD 2 0).toNat % 64 by omega]
      rfl
    have q4 : ¬ (sz : Int) ≤ 3 := of_decide_eq_false q4
    rw [if_neg (by omega)]
    refine Tot.bind0 (getD_idx (i := 3) (by omega)) (Tot.ite (fun q3 => ?_) (fun q3 => ?_))
    · have q3 : (l.getD 3 0).toNat < 128 ∨ 191 < (l.getD 3 0).toNat := by
        rcases Bool.or_eq_true_iff.1 q3 with h | h
        · have : ((l.getD 3 0).toNat : Int) < 128 := of_decide_eq_true h; omega
        · have : 191 < ((l.getD 3 0).toNat : Int) := of_decide_eq_true h; omega
      rw [if_pos q3]; exact Tot.ret rfl
    have q3 : ¬ ((l.getD 3 0).toNat < 128 ∨ 191 < (l.getD 3 0).toNat) := fun h => by
      have : (decide (((l.getD 3 0).toNat : Int) < 128) || decide (191 < ((l.getD 3 0).toNat : Int))) = true := Bool.or_eq_true_iff.2 (by
        rcases h with h | h
        · exact .inl (decide_eq_true (by omega))
        · exact .inr (decide_eq_true (by omega)))
      rw [this] at q3; cases q3
    rw [if_neg q3]
    refine Tot.some_bind (Tot.ret ?_)
    rw [(and_u8 b0).1, (and_u8 b1).2.2.2, (and_u8 b2).2.2.2, (and_u8 b3).2.2.2, sh32 _ 18 (by omega), sh32 _ 12 (by omega), sh32 _ 6 (by omega), i32_small (by omega) (by omega), or32 _ _ 18 (by omega) (by omega), show 2 ^ 18 * ((l.getD 0 0).toNat % 8) + 2 ^ 12 * ((l.getD 1 0).toNat % 64) = 2 ^ 12 * ((l.getD 0 0).toNat % 8 * 64 + (l.getD 1 0).toNat % 64) by omega, or32 _ _ 12 (by omega) (by omega), show 2 ^ 12 * ((l.getD 0 0).toNat % 8 * 64 + (l.getD 1 0).toNat % 64) + 2 ^ 6 * ((l.getD 2 0).toNat % 64) = 2 ^ 6 * (((l.getD 0 0).toNat % 8 * 64 + (l.getD 1 0).toNat % 64) * 64 + (l.getD 2 0).toNat % 64) by omega, or32 _ _ 6 (by omega) (by omega), show 2 ^ 6 * (((l.getD 0 0).toNat % 8 * 64 + (l.getD 1 0).toNat % 64) * 64 + (l.getD 2 0).toNat % 64) + (l.getD 3 0).toNat % 64 = (l.getD 0 0).toNat % 8 * 262144 + (l.getD 1 0).toNat % 64 * 4096 + (l.getD 2 0).toNat % 64 * 64 + (l.getD 3 0).toNat % 64 by omega]
    rfl
theorem DecodeRune_tot {l : List UInt8} (hl : 0 < l.length) : Tot (fun fuel => utf8_DecodeRune fuel l) (fun r => r = (((decodeL l).1 : Int), ((decodeL l).2 : Int))) := by
  unfold utf8_DecodeRune
  refine Tot.bindq (P := fun r => r = .inl () ∨ r = .inr (((decodeL l).1 : Int), ((decodeL l).2 : Int))) ?_ fun r hr => ?_
  · refine Tot.loop (fun st => st = 0) (fun _ => 0) rfl fun st e => ?_
    subst e
    refine Tot.it (decide_eq_true (by omega)) (Tot.bind0 (getD_idx (i := 0) hl) (Tot.ite (fun h => ?_) (fun h => Tot.ret (.inl rfl))))
    have h : (l.getD 0 0).toNat < 128 := by have : ((l.getD 0 0).toNat : Int) < 128 := of_decide_eq_true h; omega
    refine Tot.ret (.inr ?_)
    rw [decodeL_N, i32_small (by omega) (by omega)]
    unfold decodeN
    rw [if_pos h]; rfl
  · rcases hr with e | e
    · subst e
      exact Tot.contl (Tot.bindq (decodeRuneSlow_tot hl) fun r hr => Tot.ret (by subst hr; rfl))
    · subst e; exact Tot.contr rfl
end Go.Gv.R
