import Derived.Test.YtaeeniomdicclaaDoorU4
set_option linter.all false
namespace Go.Gv.P
open Go Go.Gv Go.Gv.D Go.Gv.R Go.Lib
set_option maxRecDepth 100000

/-! Own work: literals of texts and byte strings. -/
theorem Tot.all {α : Type} {f : Nat → Option α} {a : α} (h : ∀ k, f k = some a) : Tot f (· = a) := Tot.of_all 0 (fun k => h _) rfl
theorem index_mem : ∀ (l : List UInt8) (c : UInt8), decide (index l [c] ≥ 0) = l.contains c
  | [], c => rfl
  | b :: l, c => by
    have ih := index_mem l c
    unfold index
    have hp : List.isPrefixOf [c] (b :: l) = (c == b) := by simp [List.isPrefixOf]
    rw [hp, List.contains_cons]
    cases h : c == b with
    | true => simp
    | false =>
      simp only [Bool.false_eq_true, if_false, Bool.false_or]
      rw [← ih]
      have hge := index_ge l [c]
      by_cases hi : index l [c] = -1
      · rw [hi]; rfl
      · rw [if_neg (by simpa using hi)]
        rw [decide_eq_decide]
        omega
def mk (l : List UInt8) : UInt8 := if l.contains 39 && !l.contains 34 then 34 else 39
def esc (m : UInt8) (wide : Bool) (c : UInt8) : List UInt8 :=
  if c = 10 then [92, 110] else if c = 9 then [92, 116] else if c = 92 ∨ c = m then [92, c]
  else if c.toNat < 32 ∨ c.toNat = 127 ∨ (127 < c.toNat ∧ wide = false) then [92, 120, hx (c.toNat / 16), hx (c.toNat % 16)] else [c]
def lit (pre l : List UInt8) (wide : Bool) : List UInt8 := pre ++ [mk l] ++ l.flatMap (esc (mk l) wide) ++ [mk l]
theorem esc_len (m : UInt8) (wide : Bool) (c : UInt8) : (esc m wide c).length ≤ 4 := by
  unfold esc
  repeat' split
  all_goals simp
theorem flat_len (m : UInt8) (wide : Bool) (l : List UInt8) : (l.flatMap (esc m wide)).length ≤ 4 * l.length := by
  induction l with
  | nil => simp
  | cons c l ih =>
    have := esc_len m wide c
    rw [List.flatMap_cons, List.length_append, List.length_cons]; omega
theorem contains_some {l : List UInt8} (hl : l.length ≤ 1048576) (c : UInt8) (n : Nat) : strings_Contains n (strOf l) (strOf [c]) = some (l.contains c) := by
  unfold strings_Contains strings_Index
  rw [size_str, bytes_str, bytes_str, if_pos (by omega)]
  show some (decide (index l [c] ≥ 0)) = _
  rw [index_mem]
theorem quote_tot {l : List UInt8} (hl : l.length ≤ 1048576) : Tot (fun n => display_quote n (strOf l)) (· = ((mk l).toNat : Int)) := by
  unfold display_quote mk
  refine Tot.bindq (P := (· = (l.contains 39 && !l.contains 34))) ?_ fun j hj => ?_
  · refine Tot.bindq (Tot.all (fun n => contains_some hl 39 n)) fun r hr => ?_
    subst hr
    cases h : l.contains 39 with
    | true => exact Tot.it rfl (Tot.bindq (Tot.all (fun n => contains_some hl 34 n)) fun r hr => by subst hr; exact Tot.ret (by simp))
    | false => exact Tot.if_ rfl (Tot.ret rfl)
  · subst hj
    cases h : (l.contains 39 && !l.contains 34) with
    | true => exact Tot.it rfl (Tot.ret rfl)
    | false => exact Tot.if_ rfl (Tot.ret rfl)
theorem byte_eq {c : UInt8} {n : Nat} (h : n < 256) : (((c.toNat : Nat) : Int) == (n : Int)) = decide (c = UInt8.ofNat n) := by
  by_cases e : c = UInt8.ofNat n
  · rw [decide_eq_true e, e, UInt8.toNat_ofNat', Nat.mod_eq_of_lt (by omega)]; exact beq_self_eq_true _
  · rw [decide_eq_false e, beq_eq_false_iff_ne]
    intro h2
    exact e (UInt8.toNat_inj.1 (by rw [UInt8.toNat_ofNat', Nat.mod_eq_of_lt (by omega)]; omega))
theorem escape_tot {out : List UInt8} (hl : out.length ≤ 100000000) (c m : UInt8) (wide : Bool) : Tot (fun n => display_escape n out (c.toNat : Int) (m.toNat : Int) wide) (· = out ++ esc m wide c) := by
  unfold display_escape esc
  have e10 := byte_eq (c := c) (n := 10) (by decide)
  have e9 := byte_eq (c := c) (n := 9) (by decide)
  have e92 := byte_eq (c := c) (n := 92) (by decide)
  have em : (((c.toNat : Nat) : Int) == (m.toNat : Int)) = decide (c = m) := by
    by_cases e : c = m
    · rw [e, decide_eq_true rfl]; exact beq_self_eq_true _
    · rw [decide_eq_false e, beq_eq_false_iff_ne]; exact fun h => e (UInt8.toNat_inj.1 (by omega))
  refine Tot.ite (fun h => ?_) (fun h => ?_)
  · have h : c = 10 := of_decide_eq_true (e10.symm.trans h)
    rw [if_pos h]
    exact Tot.bind0 (app_ok (by simp; omega)) (Tot.ret rfl)
  have h : ¬ c = 10 := of_decide_eq_false (e10.symm.trans h)
  rw [if_neg h]
  refine Tot.ite (fun h => ?_) (fun h => ?_)
  · have h : c = 9 := of_decide_eq_true (e9.symm.trans h)
    rw [if_pos h]
    exact Tot.bind0 (app_ok (by simp; omega)) (Tot.ret rfl)
  have h : ¬ c = 9 := of_decide_eq_false (e9.symm.trans h)
  rw [if_neg h]
  have e3 : (((c.toNat : Nat) : Int) == 92 || ((c.toNat : Nat) : Int) == (m.toNat : Int)) = decide (c = 92 ∨ c = m) := by
    rw [em, show (((c.toNat : Nat) : Int) == 92) = decide (c = 92) from e92]
    by_cases a : c = 92 <;> by_cases b : c = m <;> simp [a, b]
  refine Tot.ite (fun h => ?_) (fun h => ?_)
  · rw [if_pos (of_decide_eq_true (e3.symm.trans h))]
    exact Tot.bind0 (u8_byte c) (Tot.bind0 (app_ok (by simp; omega)) (Tot.ret rfl))
  rw [if_neg (of_decide_eq_false (e3.symm.trans h))]
  have hb := byte_lt c
  have e4 : (decide (((c.toNat : Nat) : Int) < 32) || (((c.toNat : Nat) : Int) == 127 || (decide (((c.toNat : Nat) : Int) > 127) && !wide))) = decide (c.toNat < 32 ∨ c.toNat = 127 ∨ (127 < c.toNat ∧ wide = false)) := by
    rw [show (((c.toNat : Nat) : Int) == 127) = decide (c.toNat = 127) by rw [Bool.eq_iff_iff]; simp; omega]
    cases wide <;> rw [Bool.eq_iff_iff] <;> simp <;> omega
  refine Tot.ite (fun h => ?_) (fun h => ?_)
  · rw [if_pos (of_decide_eq_true (e4.symm.trans h))]
    exact Tot.bind0 (hex_hi c) (Tot.bind0 (hex_lo c) (Tot.bind0 (u8_byte _) (Tot.bind0 (u8_byte _) (Tot.bind0 (app_ok (by simp; omega)) (Tot.ret rfl)))))
  · rw [if_neg (of_decide_eq_false (e4.symm.trans h))]
    exact Tot.bind0 (u8_byte c) (Tot.bind0 (app_ok (by simp; omega)) (Tot.ret rfl))
theorem literal_tot {l pre : List UInt8} (wide : Bool) (hl : l.length ≤ 1048576) (hp : pre.length ≤ 10) : Tot (fun n => display_literal n (strOf l) (strOf pre) wide) (· = strOf (lit pre l wide)) := by
  unfold display_literal
  refine Tot.bindq (quote_tot hl) fun r hr => ?_
  subst hr
  refine Tot.bind0 (a := pre) (by unfold bl; rw [size_str, if_pos (by omega), bytes_str]) (Tot.bind0 (u8_byte _) (Tot.bind0 (app_ok (by simp; omega)) ?_))
  refine Tot.bindq (P := (· = pre ++ [mk l] ++ l.flatMap (esc (mk l) wide))) ?_ fun j hj => ?_
  · refine Tot.loop (fun st => ∃ i : Nat, i ≤ l.length ∧ st = (pre ++ [mk l] ++ (l.take i).flatMap (esc (mk l) wide), (i : Int))) (fun st => l.length - st.2.toNat) ⟨0, by omega, by simp⟩ fun st ⟨i, hi, hst⟩ => ?_
    subst hst
    dsimp only
    rw [size_str]
    refine Tot.ite (fun h => ?_) (fun h => ?_)
    · have h : i < l.length := by have : (i : Int) < (l.length : Int) := of_decide_eq_true h; omega
      refine Tot.bind0 (sidx_nat (by rw [bytes_str]; exact h)) ?_
      have hg : (bytesOf (strOf l))[i]'(by rw [bytes_str]; exact h) = l[i] := by simp only [bytes_str]
      rw [hg]
      have hf := flat_len (mk l) wide (l.take i)
      rw [List.length_take] at hf
      refine Tot.bindq (escape_tot (by simp only [List.length_append, List.length_cons, List.length_nil]; omega) _ _ _) fun r hr => Tot.ret ?_
      subst hr
      rw [iw (n := i + 1) (by omega) (by omega)]
      refine ⟨⟨i + 1, by omega, ?_⟩, by dsimp only; omega⟩
      rw [List.take_succ_eq_append_getElem h, List.flatMap_append]
      simp
    · have h : i = l.length := by have : ¬ (i : Int) < (l.length : Int) := of_decide_eq_false h; omega
      subst h
      exact Tot.ret (by rw [List.take_length])
  · subst hj
    have hf := flat_len (mk l) wide l
    refine Tot.bind0 (u8_byte _) (Tot.bind0 (app_ok (by simp only [List.length_append, List.length_cons, List.length_nil]; omega)) (Tot.ret rfl))
end Go.Gv.P

