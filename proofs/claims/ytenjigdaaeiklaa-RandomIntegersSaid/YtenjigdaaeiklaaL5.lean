import Derived.Test.YtenjigdaaeiklaaL4
set_option linter.all false
namespace Go.Gv.R
open Go Go.Gv Go.Gv.D

theorem val_snoc (l : List Int) (x : Int) : val (l ++ [x]) = val l + 4294967296 ^ l.length * x := by
  rw [val_append]; simp [val]
theorem val_take_succ {a : List Int} {i : Nat} (h : i < a.length) : val (a.take (i + 1)) = val (a.take i) + 4294967296 ^ i * a[i] := by
  rw [List.take_succ_eq_append_getElem h, val_snoc, List.length_take, Nat.min_eq_left (by omega)]
theorem val_take_all {a : List Int} {i : Nat} (h : a.length ≤ i) : val (a.take i) = val a := by
  rw [List.take_of_length_le h]
theorem Dg.take {a : List Int} (h : Dg a) (i : Nat) : Dg (a.take i) := fun x hx => h x (List.mem_of_mem_take hx)
theorem Dg.get {a : List Int} (h : Dg a) {i : Nat} (hi : i < a.length) : 0 ≤ a[i] ∧ a[i] < 4294967296 := h _ (List.getElem_mem hi)
theorem Dg.one {x : Int} (h : 0 ≤ x ∧ x < 4294967296) : Dg [x] := fun y hy => by simp at hy; subst hy; exact h
theorem i64_small {x : Int} (h : -4611686018427387904 ≤ x) (h' : x ≤ 4611686018427387904) : IntKind.i64.wrap x = x := i64_wrap (by omega) (by omega)
theorem u64_small {x : Int} (h : 0 ≤ x) (h' : x < 18446744073709551616) : IntKind.u64.wrap x = x := by rw [u64_wrap]; omega
theorem u32_small {x : Int} (h : 0 ≤ x) (h' : x < 4294967296) : IntKind.u32.wrap x = x := by rw [u32_wrap]; omega
theorem idx_nat {α : Type} {xs : List α} {i : Nat} (h : i < xs.length) : idx xs (i : Int) = some xs[i] := idx_ok (by omega) (by omega)

/-! ### adding -/
theorem add_tot {a b : List Int} (ha : Dg a) (hb : Dg b) (la : a.length ≤ 1000) (lb : b.length ≤ 1000) :
    Tot (fun fuel => natural_add fuel a b) (fun r => Dg r ∧ Nz r ∧ val r = val a + val b ∧ r.length ≤ max a.length b.length + 1) := by
  unfold natural_add
  refine Tot.bindq (P := fun j => (j = (a, b) ∨ j = (b, a)) ∧ j.2.length ≤ j.1.length) ?_ fun j ⟨hj, hjl⟩ => ?_
  · refine Tot.ite (fun h => Tot.ret ⟨.inr rfl, ?_⟩) (fun h => Tot.ret ⟨.inl rfl, ?_⟩)
    · have h := of_decide_eq_true h
      show a.length ≤ b.length
      omega
    · have h := of_decide_eq_false h
      show b.length ≤ a.length
      omega
  obtain ⟨p, q⟩ := j
  have hpq : Dg p ∧ Dg q ∧ p.length ≤ 1000 ∧ val a + val b = val p + val q ∧ max a.length b.length = p.length := by
    rcases hj with e | e <;> cases e
    · exact ⟨ha, hb, la, rfl, Nat.max_eq_left hjl⟩
    · exact ⟨hb, ha, lb, Int.add_comm _ _, Nat.max_eq_right hjl⟩
  obtain ⟨hp, hq, lp, hv, hm⟩ := hpq
  have hjl : q.length ≤ p.length := hjl
  rw [hv, hm]
  have hw : IntKind.i64.wrap ((p.length : Int) + 1) = (p.length : Int) + 1 := i64_small (by omega) (by omega)
  refine Tot.bind0 (a := []) (by show mkC 0 (IntKind.i64.wrap ((p.length : Int) + 1)) (0 : Int) = _; rw [hw]; unfold mkC; rw [if_pos ⟨by decide, by omega, by omega⟩]; rfl) ?_
  refine Tot.bindq (P := fun r => Dg r.1 ∧ r.1.length = p.length ∧ 0 ≤ r.2 ∧ r.2 ≤ 1 ∧ val r.1 + 4294967296 ^ p.length * r.2 = val p + val q) ?_ fun r ⟨h1, h2, h3, h4, h5⟩ => ?_
  · refine Tot.loop (fun st => ∃ i : Nat, st.2.2 = (i : Int) ∧ i ≤ p.length ∧ Dg st.1 ∧ st.1.length = i ∧ 0 ≤ st.2.1 ∧ st.2.1 ≤ 1 ∧ val st.1 + 4294967296 ^ i * st.2.1 = val (p.take i) + val (q.take i)) (fun st => p.length - st.2.2.toNat)
      ⟨0, rfl, by omega, fun x hx => by simp at hx, rfl, by decide, by decide, by simp [val]⟩ fun st ⟨i, e, hi, g1, g2, g3, g4, g5⟩ => ?_
    obtain ⟨out, carry, k⟩ := st
    have e : k = (i : Int) := e
    subst e
    simp only at g1 g2 g3 g4 g5
    refine Tot.ite (fun h => ?_) (fun h => ?_)
    · have h : i < p.length := by have : ((i : Nat) : Int) < (p.length : Int) := of_decide_eq_true h; omega
      have hx := hp.get h
      refine Tot.bind0 (idx_nat h) (Tot.some_bind ?_)
      have w1 : IntKind.u64.wrap p[i] = p[i] := u64_small (by omega) (by omega)
      have w2 : IntKind.u64.wrap (carry + p[i]) = carry + p[i] := u64_small (by omega) (by omega)
      simp only [w1, w2]
      have tp := val_take_succ h
      refine Tot.bindq (P := fun s => 0 ≤ s ∧ s ≤ 8589934591 ∧ 4294967296 ^ i * s + val (p.take i) + val (q.take i) = 4294967296 ^ i * carry + val (p.take (i + 1)) + val (q.take (i + 1))) ?_ fun s ⟨k1, k2, k3⟩ => ?_
      · refine Tot.ite (fun hh => ?_) (fun hh => ?_)
        · have hh : i < q.length := by have : ((i : Nat) : Int) < (q.length : Int) := of_decide_eq_true hh; omega
          have hy := hq.get hh
          have tq := val_take_succ hh
          refine Tot.bind0 (idx_nat hh) (Tot.some_bind (Tot.ret ?_))
          rw [u64_small (x := q[i]) (by omega) (by omega), u64_small (by omega) (by omega), tp, tq]
          refine ⟨by omega, by omega, ?_⟩
          grind
        · have hh : q.length ≤ i := by have : ¬ ((i : Nat) : Int) < (q.length : Int) := of_decide_eq_false hh; omega
          refine Tot.ret ⟨by omega, by omega, ?_⟩
          have q1 := val_take_all hh
          have q2 := val_take_all (a := q) (i := i + 1) (by omega)
          rw [tp, q1, q2]
          generalize (4294967296 : Int) ^ i = P
          grind
      · refine Tot.bind0 (app_ok (by simp; omega)) (Tot.ret ?_)
        have e1 : s.fdiv (2 ^ 32) = s / 4294967296 := Int.fdiv_eq_ediv_of_nonneg _ (by decide)
        simp only [u32_wrap, e1]
        have hw : IntKind.i64.wrap ((i : Int) + 1) = ((i + 1 : Nat) : Int) := by rw [i64_small (by omega) (by omega)]; omega
        rw [hw]
        refine ⟨⟨i + 1, rfl, by omega, g1.append (Dg.one (by omega)), by simp [g2], by omega, by omega, ?_⟩, by omega⟩
        rw [val_snoc, g2, Int.pow_succ]
        have e2 : s = s % 4294967296 + 4294967296 * (s / 4294967296) := by omega
        generalize (4294967296 : Int) ^ i = P at *
        generalize s % 4294967296 = u at *
        generalize s / 4294967296 = v at *
        subst e2
        grind
    · have h : i = p.length := by have : ¬ ((i : Nat) : Int) < (p.length : Int) := of_decide_eq_false h; omega
      subst h
      refine Tot.ret ⟨g1, g2, g3, g4, ?_⟩
      rw [val_take_all (Nat.le_refl _), val_take_all hjl] at g5
      exact g5
  · refine Tot.bind0 (app_ok (by simp; omega)) ?_
    rw [u32_small h3 (by omega)]
    refine Tot.bindq (ntrim_tot (by simp; omega)) fun t ht => Tot.ret ⟨ht.dg (h1.append (Dg.one (by omega))), ht.nz, ?_, ?_⟩
    · rw [ht.val, val_snoc, h2]
      exact h5
    · have := ht.len
      simp at this
      omega

/-! ### subtracting -/
theorem toNat_and32 (a b : Int) : bwAnd .u32 a b = ((BitVec.ofInt 32 a &&& BitVec.ofInt 32 b).toNat : Int) := by
  unfold bwAnd
  rw [u32_wrap]
  have := (BitVec.ofInt 32 a &&& BitVec.ofInt 32 b).isLt
  show ((BitVec.ofInt 32 a &&& BitVec.ofInt 32 b).toNat : Int) % _ = _
  omega
theorem toNat_or32 (a b : Int) : bwOr .u32 a b = ((BitVec.ofInt 32 a ||| BitVec.ofInt 32 b).toNat : Int) := by
  unfold bwOr
  rw [u32_wrap]
  have := (BitVec.ofInt 32 a ||| BitVec.ofInt 32 b).isLt
  show ((BitVec.ofInt 32 a ||| BitVec.ofInt 32 b).toNat : Int) % _ = _
  omega
theorem toNat_xor32 (a b : Int) : bwXor .u32 a b = ((BitVec.ofInt 32 a ^^^ BitVec.ofInt 32 b).toNat : Int) := by
  unfold bwXor
  rw [u32_wrap]
  have := (BitVec.ofInt 32 a ^^^ BitVec.ofInt 32 b).isLt
  show ((BitVec.ofInt 32 a ^^^ BitVec.ofInt 32 b).toNat : Int) % _ = _
  omega
theorem ofInt_toNat32 (v : BitVec 32) : BitVec.ofInt 32 (v.toNat : Int) = v := by
  apply BitVec.eq_of_toNat_eq
  have := v.isLt
  simp only [BitVec.toNat_ofInt]
  omega
theorem msb32 (v : BitVec 32) : ((v.toNat : Int).fdiv (2 ^ 31)) = if v.msb then 1 else 0 := by
  rw [Int.fdiv_eq_ediv_of_nonneg _ (by decide), BitVec.msb_eq_decide]
  have := v.isLt
  by_cases h : 2 ^ (32 - 1) ≤ v.toNat
  · rw [decide_eq_true h]
    simp only [if_true]
    omega
  · rw [decide_eq_false h]
    simp only [Bool.false_eq_true, if_false]
    omega
theorem msb_int {x : Int} (h : 0 ≤ x ∧ x < 4294967296) : (BitVec.ofInt 32 x).msb = decide (2147483648 ≤ x) := by
  rw [BitVec.msb_eq_decide]
  simp only [BitVec.toNat_ofInt]
  congr 1
  have : (x % ((2 ^ 32 : Nat) : Int)).toNat = x.toNat := by omega
  rw [this]
  apply propext
  omega

theorem sub32_tot (fuel : Nat) {x y b : Int} (hx : 0 ≤ x ∧ x < 4294967296) (hy : 0 ≤ y ∧ y < 4294967296) (hb : 0 ≤ b ∧ b ≤ 1) :
    ∃ d c, bits_Sub32 fuel x y b = some (d, c) ∧ 0 ≤ d ∧ d < 4294967296 ∧ 0 ≤ c ∧ c ≤ 1 ∧ d = x - y - b + 4294967296 * c := by
  have hd : IntKind.u32.wrap (IntKind.u32.wrap (x - y) - b) = (x - y - b) % 4294967296 := by
    rw [u32_wrap, u32_wrap]; omega
  refine ⟨(x - y - b) % 4294967296, if x - y - b < 0 then 1 else 0, ?_, by omega, by omega, by split <;> decide, by split <;> decide, by split <;> omega⟩
  unfold bits_Sub32
  simp only [hd, Option.bind_some]
  congr 2
  generalize hD : (x - y - b) % 4294967296 = d
  have hdd : 0 ≤ d ∧ d < 4294967296 := by omega
  simp only [toNat_or32, toNat_and32, toNat_xor32, ofInt_toNat32, msb32, BitVec.msb_or, BitVec.msb_and, BitVec.msb_xor, msb_int hx, msb_int hy, msb_int hdd, show (BitVec.ofInt 32 4294967295).msb = true from rfl]
  by_cases h1 : 2147483648 ≤ x <;> by_cases h2 : 2147483648 ≤ y <;> by_cases h3 : 2147483648 ≤ d <;> simp only [h1, h2, h3, decide_true, decide_false] <;> split <;> split <;> first | rfl | (exfalso; simp_all; done) | (exfalso; omega)

theorem sub_tot {a b : List Int} (ha : Dg a) (hb : Dg b) (la : a.length ≤ 1000) (hl : b.length ≤ a.length) (hv : val b ≤ val a) :
    Tot (fun fuel => natural_sub fuel a b) (fun r => Dg r ∧ Nz r ∧ val r = val a - val b ∧ r.length ≤ a.length) := by
  unfold natural_sub
  refine Tot.bind0 (a := a) (by show (app [] a).bind (fun l => some l) = some a; rw [app_ok (by simp; omega)]; rfl) ?_
  refine Tot.bindq (P := fun r => Dg r ∧ r.length = a.length ∧ val r = val a - val b) ?_ fun r ⟨h1, h2, h3⟩ => ?_
  · refine Tot.loop (fun st => ∃ i : Nat, st.2.2 = (i : Int) ∧ i ≤ a.length ∧ Dg st.1 ∧ st.1.length = a.length ∧ st.1.drop i = a.drop i ∧ 0 ≤ st.2.1 ∧ st.2.1 ≤ 1 ∧ val (st.1.take i) = val (a.take i) - val (b.take i) + 4294967296 ^ i * st.2.1) (fun st => a.length - st.2.2.toNat)
      ⟨0, rfl, by omega, ha, rfl, rfl, Int.le_refl 0, (by decide : (0 : Int) ≤ 1), by simp [val]⟩ fun st ⟨i, e, hi, g1, g2, g6, g3, g4, g5⟩ => ?_
    obtain ⟨out, bor, k⟩ := st
    have e : k = (i : Int) := e
    subst e
    simp only at g1 g2 g3 g4 g5 g6
    refine Tot.ite (fun h => ?_) (fun h => ?_)
    · have h : i < a.length := by have : ((i : Nat) : Int) < (a.length : Int) := of_decide_eq_true h; omega
      have hx := ha.get h
      have ho : out[i]'(by omega) = a[i] := by
        have h1 := List.drop_eq_getElem_cons (show i < out.length by omega)
        have h2 := List.drop_eq_getElem_cons h
        rw [g6, h2] at h1
        exact (List.cons.inj h1).1.symm
      have hod : out.drop (i + 1) = a.drop (i + 1) := by
        have h1 := List.drop_eq_getElem_cons (show i < out.length by omega)
        have h2 := List.drop_eq_getElem_cons h
        rw [g6, h2] at h1
        exact (List.cons.inj h1).2.symm
      have tp := val_take_succ h
      refine Tot.bindq (P := fun y => 0 ≤ y ∧ y < 4294967296 ∧ val (b.take (i + 1)) = val (b.take i) + 4294967296 ^ i * y) ?_ fun y ⟨k1, k2, k3⟩ => ?_
      · refine Tot.ite (fun hh => ?_) (fun hh => ?_)
        · have hh : i < b.length := by have : ((i : Nat) : Int) < (b.length : Int) := of_decide_eq_true hh; omega
          exact Tot.bind0 (idx_nat hh) (Tot.ret ⟨(hb.get hh).1, (hb.get hh).2, val_take_succ hh⟩)
        · have hh : b.length ≤ i := by have : ¬ ((i : Nat) : Int) < (b.length : Int) := of_decide_eq_false hh; omega
          refine Tot.ret ⟨by decide, by decide, ?_⟩
          rw [val_take_all hh, val_take_all (a := b) (i := i + 1) (by omega)]
          omega
      · have hi' : i < out.length := by omega
        refine Tot.bind0 (idx_nat hi') ?_
        rw [ho]
        obtain ⟨d, c, e1, e2, e3, e4, e5, e6⟩ := sub32_tot 0 hx ⟨k1, k2⟩ ⟨g3, g4⟩
        refine Tot.bind0 (a := (d, c)) e1 (Tot.bind0 (idx_nat hi') (Tot.bind0 (a := out.set i d) (by unfold upd; rw [if_pos ⟨by omega, by omega⟩]; rfl) (Tot.ret ?_)))
        have hw : IntKind.i64.wrap ((i : Int) + 1) = ((i + 1 : Nat) : Int) := by rw [i64_small (by omega) (by omega)]; omega
        simp only [hw]
        refine ⟨⟨i + 1, rfl, by omega, ?_, by simp [g2], ?_, e4, e5, ?_⟩, by omega⟩
        · intro z hz
          rcases List.mem_or_eq_of_mem_set hz with h | h
          · exact g1 z h
          · subst h; exact ⟨e2, e3⟩
        · rw [List.drop_set_of_lt (by omega), hod]
        · have : (out.set i d).take (i + 1) = out.take i ++ [d] := by
            rw [List.take_succ_eq_append_getElem (by simpa using hi')]
            simp [List.take_set_of_le]
          rw [this, val_snoc, List.length_take, Nat.min_eq_left (by omega), g5, tp, k3, Int.pow_succ, e6]
          generalize (4294967296 : Int) ^ i = P
          grind
    · have h : i = a.length := by have : ¬ ((i : Nat) : Int) < (a.length : Int) := of_decide_eq_false h; omega
      subst h
      refine Tot.ret ⟨g1, g2, ?_⟩
      show val out = _
      rw [val_take_all (by omega), val_take_all (Nat.le_refl _), val_take_all hl] at g5
      have := val_bound (l := out) g1
      rw [g2] at this
      rcases (by omega : bor = 0 ∨ bor = 1) with h0 | h0
      · rw [h0] at g5; omega
      · rw [h0] at g5; omega
  · refine Tot.bindq (ntrim_tot (by omega)) fun t ht => Tot.ret ⟨ht.dg h1, ht.nz, by rw [ht.val]; exact h3, ?_⟩
    have := ht.len
    omega
end Go.Gv.R
