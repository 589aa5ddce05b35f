import Derived.Test.YtkmcegicngjhbaaGreatDoorR8
set_option linter.all false
namespace Go.Gv.RI
open Go Go.Gv Go.Gv.D

/-! integers as ints, and the nearest of a range -/
theorem i64_high {x : Int} (h : 9223372036854775808 ≤ x) (h' : x < 18446744073709551616) : IntKind.i64.wrap x = x - 18446744073709551616 := by
  simp [IntKind.wrap, IntKind.signed, IntKind.bits]
  omega
theorem SmallA_tot {a : Bool × List Int} (ha : OkI a) : Tot (fun fuel => integer_Small fuel a) (fun r => if -9223372036854775808 ≤ ival a ∧ ival a ≤ 9223372036854775807 then r = (ival a, (0, 0)) else r = (0, (14, -1))) := by
  obtain ⟨b, l⟩ := a
  have hl : OkL l := ha.1
  unfold integer_Small
  refine Tot.bindq (icheck (l := [(b, l)]) (fun x hx => by simp at hx; subst hx; exact ha) (by simp)) fun r hr => ?_
  subst hr
  refine Tot.if_ rfl ?_
  have hb := val_bound hl.1
  have hlen := hl.2.2
  refine Tot.bindq (P := fun x => if l.length ≤ 2 then ∃ q, x = .inl (val l, q) else x = .inr (0, (14, -1))) ?_ fun x hx => ?_
  · refine Tot.loop (fun st => ∃ i : Nat, st.2.1 = (i : Int) ∧ i ≤ l.length ∧ i ≤ 2 ∧ st.1 = val (l.take i)) (fun st => l.length - st.2.1.toNat) ⟨0, rfl, by omega, by omega, by simp [val]⟩ fun st ⟨i, e, hi, hi2, hs⟩ => ?_
    obtain ⟨n, k, z⟩ := st
    simp only at e hs
    subst e
    refine Tot.ite (fun h => ?_) (fun h => ?_)
    · have h : i < l.length := by have : ((i : Nat) : Int) < (l.length : Int) := of_decide_eq_true h; omega
      have hx := hl.1.get h
      have ht := val_take_succ h
      refine Tot.bind0 (idx_nat h) (Tot.ite (fun h2 => ?_) fun h2 => ?_)
      · have h2 : (i : Int) > 1 := of_decide_eq_true h2
        unfold integer_at
        refine Tot.some_bind (Tot.ret ?_)
        show if l.length ≤ 2 then _ else _
        rw [if_neg (by omega)]
      have h2 : i ≤ 1 := by have : ¬ ((i : Nat) : Int) > 1 := of_decide_eq_false h2; omega
      have hw : IntKind.i64.wrap (32 * (i : Int)) = 32 * (i : Int) := i64_small (by omega) (by omega)
      rw [hw]
      refine Tot.bind0 (a := ()) (by unfold nn; rw [if_pos (by omega)]) (Tot.some_bind (Tot.ret ?_))
      have hw2 : IntKind.i64.wrap ((i : Int) + 1) = ((i + 1 : Nat) : Int) := by rw [i64_small (by omega) (by omega)]; omega
      rw [hw2]
      refine ⟨⟨i + 1, rfl, by omega, by omega, ?_⟩, by show l.length - (((i + 1 : Nat) : Int)).toNat < l.length - ((i : Nat) : Int).toNat; omega⟩
      rw [ht, hs, u64_small (by omega) (by omega)]
      rcases (by omega : i = 0 ∨ i = 1) with h0 | h0
      · subst h0
        have : shlI .u64 l[0] (32 * ((0 : Nat) : Int)) = l[0] := by
          unfold shlI
          show IntKind.u64.wrap (l[0] * 2 ^ (min (0 : Int).toNat 64)) = _
          rw [show min (0 : Int).toNat 64 = 0 from rfl, u64_wrap]
          simp
          omega
        rw [this]
        have h00 : val (l.take 0) = 0 := by simp [val]
        rw [h00]
        simp only [Int.pow_zero]
        rw [or_zero ⟨by omega, by omega⟩]
        omega
      · subst h0
        have hb1 := val_bound (hl.1.take 1)
        rw [List.length_take, Nat.min_eq_left (by omega)] at hb1
        have : shlI .u64 l[1] (32 * ((1 : Nat) : Int)) = l[1] * 4294967296 := by
          unfold shlI
          show IntKind.u64.wrap (l[1] * 2 ^ (min (32 : Int).toNat 64)) = _
          rw [show min (32 : Int).toNat 64 = 32 from rfl, u64_wrap, show (2 : Int) ^ 32 = 4294967296 by decide]
          omega
        rw [this, or_shift ⟨hb1.1, by simpa using hb1.2⟩ hx]
        simp only [Int.pow_one]
        omega
    · have h : i = l.length := by have : ¬ ((i : Nat) : Int) < (l.length : Int) := of_decide_eq_false h; omega
      refine Tot.ret ?_
      show if l.length ≤ 2 then _ else _
      rw [if_pos (by omega)]
      exact ⟨z, by rw [hs, val_take_all (by omega)]⟩
  · by_cases h2 : l.length ≤ 2
    · rw [if_pos h2] at hx
      obtain ⟨q, hx⟩ := hx
      subst hx
      have hv : val l < 18446744073709551616 := by
        have := pow_mono h2
        have e2 : (4294967296 : Int) ^ 2 = 18446744073709551616 := by decide
        omega
      have hw : IntKind.i64.wrap (val l) = if val l < 9223372036854775808 then val l else val l - 18446744073709551616 := by
        by_cases h : val l < 9223372036854775808
        · rw [if_pos h, i64_wrap (by omega) (by omega)]
        · rw [if_neg h, i64_high (by omega) hv]
      have hz : b = true → 0 < val l := fun e => by
        rcases Int.lt_or_eq_of_le hb.1 with h | h
        · exact h
        · have := val_zero hl.1 hl.2.1 h.symm
          have := ha.2 this
          have this : b = false := this
          rw [this] at e; cases e
      refine Tot.contl (Tot.bindq (P := fun j => j = if b = true then IntKind.i64.wrap (0 - IntKind.i64.wrap (val l)) else IntKind.i64.wrap (val l)) ?_ fun j hj => ?_)
      · cases b with
        | true => exact Tot.it rfl (Tot.some_bind (Tot.ret rfl))
        | false => exact Tot.if_ rfl (Tot.ret rfl)
      unfold ival
      cases b with
      | true =>
        have hz := hz rfl
        simp only [if_true] at hj ⊢
        have hj2 : j = if val l ≤ 9223372036854775808 then - val l else 18446744073709551616 - val l := by
          rw [hj, hw]
          by_cases h : val l < 9223372036854775808
          · rw [if_pos h, if_pos (by omega), i64_wrap (by omega) (by omega)]; omega
          · rw [if_neg h]
            by_cases h2 : val l = 9223372036854775808
            · rw [h2, if_pos (by omega)]; decide
            · rw [if_neg (by omega), i64_wrap (by omega) (by omega)]; omega
        by_cases hs : val l ≤ 9223372036854775808
        · rw [if_pos hs] at hj2
          refine Tot.if_ (by rw [decide_eq_true (by omega)]; rfl) (Tot.ret ?_)
          rw [if_pos ⟨by omega, by omega⟩, hj2]
        · rw [if_neg hs] at hj2
          unfold integer_at
          refine Tot.it (by rw [decide_eq_false (by omega)]; rfl) (Tot.some_bind (Tot.ret ?_))
          rw [if_neg (by omega)]
      | false =>
        simp only [Bool.false_eq_true, if_false] at hj ⊢
        rw [hw] at hj
        by_cases hs : val l < 9223372036854775808
        · rw [if_pos hs] at hj
          refine Tot.if_ (by rw [decide_eq_false (by omega)]; rfl) (Tot.ret ?_)
          rw [if_pos ⟨by omega, by omega⟩, hj]
        · rw [if_neg hs] at hj
          unfold integer_at
          refine Tot.it (by rw [decide_eq_true (by omega)]; rfl) (Tot.some_bind (Tot.ret ?_))
          rw [if_neg (by omega)]
    · rw [if_neg h2] at hx
      subst hx
      refine Tot.contr ?_
      have h1 := val_big hl.1 hl.2.1 (fun e => by subst e; simp at h2)
      have h3 := pow_mono (show 2 ≤ l.length - 1 by omega)
      have e2 : (4294967296 : Int) ^ 2 = 18446744073709551616 := by decide
      unfold ival
      have : ∀ x y : Prop, (¬ (-9223372036854775808 ≤ (if b = true then -val l else val l) ∧ (if b = true then -val l else val l) ≤ 9223372036854775807)) := fun _ _ => by cases b <;> simp only [Bool.false_eq_true, if_true, if_false] <;> omega
      exact (if_neg (this True True)) ▸ rfl

def clampI (x lo hi : Int) : Int := if x ≤ lo then lo else if hi ≤ x then hi else x
theorem near_tot {a : Bool × List Int} (ha : Ok3 a.2) {lo hi : Int} (h1 : -1000000 ≤ lo) (h2 : hi ≤ 1000000) (h : lo ≤ hi) : Tot (fun fuel => ref3_near fuel a lo hi) (fun r => r = clampI (iv3 a) lo hi) := by
  have num : ∀ {n : Int}, -1000000 ≤ n → n ≤ 1000000 → Tot (fun fuel => ref3_Number fuel n) (fun r => Ok3 r.2 ∧ iv3 r = n) := fun {n} g1 g2 => (Number_tot (n := n) (by omega) (by omega)).mono fun r ⟨e1, e2, e3⟩ => ⟨e2, by
    unfold iv3
    rw [e1, e3]
    by_cases hn : n < 0
    · rw [decide_eq_true hn, if_pos rfl]; omega
    · rw [decide_eq_false hn, if_neg (by simp)]; omega⟩
  obtain ⟨ax, al⟩ := a
  unfold ref3_near clampI
  dsimp only
  refine Tot.bindq (num h1 (by omega)) fun ⟨rx, rl⟩ ⟨e1, e2⟩ => Tot.bindq (Order_tot (a := (ax, al)) ha e1) fun o ⟨o1, o2⟩ => ?_
  dsimp only at o1 o2
  rw [e2] at o1 o2
  refine Tot.ite (fun g => Tot.ret ?_) fun g => ?_
  · have g := of_decide_eq_true g
    rw [if_pos (by omega)]
  have g := of_decide_eq_false g
  have hlo : lo < iv3 (ax, al) := by omega
  rw [if_neg (by omega)]
  refine Tot.bindq (num (by omega) h2) fun ⟨rx, rl⟩ ⟨e1, e2⟩ => Tot.bindq (Order_tot (a := (ax, al)) ha e1) fun o ⟨o1, o2⟩ => ?_
  dsimp only at o1 o2
  rw [e2] at o1 o2
  refine Tot.ite (fun g => Tot.ret ?_) fun g => ?_
  · have g := of_decide_eq_true g
    rw [if_pos (by omega)]
  have g := of_decide_eq_false g
  have hhi : iv3 (ax, al) < hi := by omega
  rw [if_neg (by omega)]
  refine Tot.bindq (P := fun j => j = iv3 (ax, al)) ?_ fun j hj => Tot.ret hj
  refine Tot.loop (fun st : Int => lo ≤ st ∧ st ≤ iv3 (ax, al)) (fun st => (iv3 (ax, al) - st).toNat) ⟨by omega, by omega⟩ fun st ⟨s1, s2⟩ => ?_
  refine Tot.bindq (num (n := st) (by omega) (by omega)) fun ⟨rx, rl⟩ ⟨e1, e2⟩ => Tot.bindq (Order_tot (a := (ax, al)) ha e1) fun o ⟨o1, o2⟩ => ?_
  dsimp only at o1 o2
  rw [e2] at o1 o2
  refine Tot.ite (fun g => Tot.ret ?_) fun g => Tot.ret ?_
  · have g : o ≠ 0 := by simpa using g
    rw [i64_small (by omega) (by omega)]
    exact ⟨⟨by omega, by omega⟩, by omega⟩
  · have g : o = 0 := by simpa using g
    show st = iv3 (ax, al)
    omega
end Go.Gv.RI

