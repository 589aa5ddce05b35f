import Derived.Test.YtkmcegicngjhbaaDoorL1
import Derived.Lib.ValidLaws
import Derived.Lib.ValidAsc
import Derived.Lib.DecodeNEq
import Derived.Lib.MapLaws
set_option linter.all false
namespace Go.Gv.R
open Go Go.Gv Go.Gv.D Go.Lib

/-! ### words of eight bytes -/
theorem u64_small {x : Int} (h : 0 ≤ x) (h' : x < 18446744073709551616) : IntKind.u64.wrap x = x := by rw [u64_wrap]; omega
theorem or64 (a b : Nat) (h : a < 18446744073709551616) (h' : b < 18446744073709551616) : bwOr .u64 (a : Int) (b : Int) = ((a ||| b : Nat) : Int) := by
  unfold bwOr
  rw [show IntKind.u64.bits = 64 from rfl, ofInt_nat, ofInt_nat, BitVec.toNat_or, BitVec.toNat_ofNat, BitVec.toNat_ofNat, Nat.mod_eq_of_lt (by omega), Nat.mod_eq_of_lt (by omega)]
  have : a ||| b < 2 ^ 64 := Nat.or_lt_two_pow (by omega) (by omega)
  exact u64_small (by omega) (by omega)
theorem and64 (a b : Nat) (h : a < 18446744073709551616) (h' : b < 18446744073709551616) : bwAnd .u64 (a : Int) (b : Int) = ((a &&& b : Nat) : Int) := by
  unfold bwAnd
  rw [show IntKind.u64.bits = 64 from rfl, ofInt_nat, ofInt_nat, BitVec.toNat_and, BitVec.toNat_ofNat, BitVec.toNat_ofNat, Nat.mod_eq_of_lt (by omega), Nat.mod_eq_of_lt (by omega)]
  have : a &&& b ≤ a := Nat.and_le_left
  exact u64_small (by omega) (by omega)
theorem or_at (a b k : Nat) (ha : a < 2 ^ k) (hk : k ≤ 56) (hb : b < 256) : bwOr .u64 (a : Int) (IntKind.u64.wrap (IntKind.u64.wrap (b : Int) * 2 ^ k)) = ((a + 2 ^ k * b : Nat) : Int) := by
  have h1 : 2 ^ k ≤ 2 ^ 56 := Nat.pow_le_pow_right (by decide) hk
  have h2 : 2 ^ k * b ≤ 2 ^ k * 255 := Nat.mul_le_mul_left _ (by omega)
  have e : (b : Int) * 2 ^ k = ((2 ^ k * b : Nat) : Int) := by
    rw [Nat.mul_comm]; simp
  rw [u64_small (x := (b : Int)) (by omega) (by omega), e, u64_small (by omega) (by omega), or64 _ _ (by omega) (by omega), Nat.or_comm, ← Nat.two_pow_add_eq_or_of_lt ha, Nat.add_comm]
theorem get_sidx {t : ByteArray} {i : Nat} (h : i < t.size) : sidx t (i : Int) = some ((t.get! i).toNat : Int) := by
  have h' : i < (bytesOf t).length := by rw [← size_bytes]; exact h
  rw [sidx_nat h']
  have : (bytesOf t)[i] = t.get! i := by
    have hi : i < t.data.size := h
    show _ = t.data[i]!
    rw [getElem!_pos t.data i hi]
    simp [bytesOf]
  rw [this]
theorem word_tot {t : ByteArray} (h : 8 ≤ t.size) : Tot (fun fuel => utf8_word_string fuel t) (fun r => r = ((leNat [t.get! 0, t.get! 1, t.get! 2, t.get! 3, t.get! 4, t.get! 5, t.get! 6, t.get! 7] : Nat) : Int)) := by
  unfold utf8_word_string
  have b0 := byte_lt (t.get! 0)
  have b1 := byte_lt (t.get! 1)
  have b2 := byte_lt (t.get! 2)
  have b3 := byte_lt (t.get! 3)
  have b4 := byte_lt (t.get! 4)
  have b5 := byte_lt (t.get! 5)
  have b6 := byte_lt (t.get! 6)
  have b7 := byte_lt (t.get! 7)
  refine Tot.bind0 (get_sidx (i := 0) (by omega)) (Tot.bind0 (get_sidx (i := 1) (by omega)) (Tot.bind0 (get_sidx (i := 2) (by omega)) (Tot.bind0 (get_sidx (i := 3) (by omega)) (Tot.bind0 (get_sidx (i := 4) (by omega)) (Tot.bind0 (get_sidx (i := 5) (by omega)) (Tot.bind0 (get_sidx (i := 6) (by omega)) (Tot.bind0 (get_sidx (i := 7) (by omega)) (Tot.some_bind (Tot.ret ?_)))))))))
  simp only [leNat]
  generalize (t.get! 0).toNat = x0 at *
  generalize (t.get! 1).toNat = x1 at *
  generalize (t.get! 2).toNat = x2 at *
  generalize (t.get! 3).toNat = x3 at *
  generalize (t.get! 4).toNat = x4 at *
  generalize (t.get! 5).toNat = x5 at *
  generalize (t.get! 6).toNat = x6 at *
  generalize (t.get! 7).toNat = x7 at *
  rw [u64_small (x := (x0 : Int)) (by omega) (by omega), or_at _ _ 8 (by omega) (by omega) b1, or_at _ _ 16 (by omega) (by omega) b2, or_at _ _ 24 (by omega) (by omega) b3, or_at _ _ 32 (by omega) (by omega) b4, or_at _ _ 40 (by omega) (by omega) b5, or_at _ _ 48 (by omega) (by omega) b6, or_at _ _ 56 (by omega) (by omega) b7]
  omega
theorem tail_at {t : ByteArray} {k : Nat} (h : k ≤ t.size) : ssub t (k : Int) (t.size : Int) = some (t.extract k t.size) := by
  unfold ssub
  rw [if_pos ⟨by omega, by omega, by omega⟩]
  rfl

/-! ### what is valid -/
theorem asc8 {t : ByteArray} (h : 8 ≤ t.size) (hm : leNat [t.get! 0, t.get! 1, t.get! 2, t.get! 3, t.get! 4, t.get! 5, t.get! 6, t.get! 7] &&& 9259542123273814144 = 0) : Asc t 8 := (word_asc t h).1 hm
theorem acc_at {i : Nat} (h : i < 16) : idx utf8Acc (i : Int) = some ((accLo i : Int), (accHi i : Int)) := by
  have : ((List.range 16).all fun i => decide (idx utf8Acc ((i : Nat) : Int) = some ((accLo i : Int), (accHi i : Int)))) = true := by kernel_rfl
  exact of_decide_eq_true (List.all_eq_true.1 this i (List.mem_range.2 h))
theorem first_at {b : Nat} (h : b < 256) : idx utf8First (b : Int) = some (UInt8.ofNat (firstT b)) := by
  have : ((List.range 256).all fun i => decide (idx utf8First ((i : Nat) : Int) = some (UInt8.ofNat (firstT i)))) = true := by kernel_rfl
  exact of_decide_eq_true (List.all_eq_true.1 this b (List.mem_range.2 h))
theorem firstT_lt (b : Nat) : firstT b < 256 := by unfold firstT; (repeat' split) <;> omega
theorem first_parts {b : Nat} (h : b < 256) : (UInt8.ofNat (firstT b)).toNat = firstT b ∧ IntKind.i64.wrap (bwAnd .u8 (((UInt8.ofNat (firstT b)).toNat : Nat) : Int) 7) = ((firstT b % 8 : Nat) : Int) ∧ (((UInt8.ofNat (firstT b)).toNat : Nat) : Int).fdiv (2 ^ 4) = ((firstT b / 16 : Nat) : Int) := by
  have h2 := firstT_lt b
  have e : (UInt8.ofNat (firstT b)).toNat = firstT b := by rw [UInt8.toNat_ofNat', Nat.mod_eq_of_lt (by omega)]
  rw [e]
  generalize firstT b = c at h2
  have k : ((List.range 256).all fun c => decide (IntKind.i64.wrap (bwAnd .u8 ((c : Nat) : Int) 7) = ((c % 8 : Nat) : Int)) && decide (((c : Nat) : Int).fdiv (2 ^ 4) = ((c / 16 : Nat) : Int))) = true := by kernel_rfl
  have := List.all_eq_true.1 k c (List.mem_range.2 h2)
  simp only [Bool.and_eq_true, decide_eq_true_eq] at this
  exact ⟨rfl, this.1, this.2⟩
theorem get_getD (t : ByteArray) (i : Nat) : t.get! i = (bytesOf t).getD i 0 := by
  show t.data[i]! = t.data.toList.getD i 0
  rw [List.getD_eq_getElem?_getD, Array.getElem?_toList]
  by_cases h : i < t.data.size
  · rw [getElem!_pos t.data i h, Array.getElem?_eq_getElem h]; rfl
  · rw [getElem!_neg t.data i h, Array.getElem?_eq_none (by omega)]; rfl
theorem cast_zero {a : Nat} (h : ((a : Int) == 0) = true) : a = 0 := by have := eq_of_beq h; omega

theorem ValidString_tot {s : ByteArray} (hs : s.size ≤ 4611686018427387904) : Tot (fun fuel => utf8_ValidString fuel s) (fun r => r = validD (bytesOf s)) := by
  unfold utf8_ValidString
  refine Tot.bindq (P := fun r => (∃ b, (r = .inr b ∧ b = validD (bytesOf s))) ∨ (r = .inl () ∧ validD (bytesOf s) = true)) ?_ fun r hr => ?_
  · refine Tot.loop (fun t => t.size ≤ s.size ∧ validD (bytesOf t) = validD (bytesOf s)) (fun t => t.size) ⟨Nat.le_refl _, rfl⟩ fun t ⟨hts, hv⟩ => ?_
    have skip : ∀ {t : ByteArray} {k : Nat}, Asc t k → validD (bytesOf (t.extract k t.size)) = validD (bytesOf t) := fun {t k} h => valid_skip t k h
    refine Tot.ite (fun h => ?_) (fun h => ?_)
    · have h : 0 < t.size := by have : ((t.size : Nat) : Int) > 0 := of_decide_eq_true h; omega
      refine Tot.bind0 (get_sidx (i := 0) h) (Tot.ite (fun h1 => ?_) (fun h1 => ?_))
      · have h1 : (t.get! 0).toNat < 128 := by have : ((t.get! 0).toNat : Int) < 128 := of_decide_eq_true h1; omega
        refine Tot.bind0 (tail_at (k := 1) h) ?_
        have a1 := asc_one t h h1
        have z1 : (t.extract 1 t.size).size = t.size - 1 := ext_size t 1
        have v1 := skip a1
        generalize t.extract 1 t.size = t1 at z1 v1
        refine Tot.bindq (P := fun r => r = true → 8 < t1.size ∧ Asc t1 8) ?_ fun r hr => ?_
        · refine Tot.ite (fun h2 => ?_) (fun h2 => Tot.ret (fun e => by cases e))
          have h2 : 8 < t1.size := by have : ((t1.size : Nat) : Int) > 8 := of_decide_eq_true h2; omega
          refine Tot.bindq (word_tot (by omega)) fun r hr => Tot.ret fun e => ⟨h2, ?_⟩
          subst hr
          rw [show (9259542123273814144 : Int) = ((9259542123273814144 : Nat) : Int) from rfl, and64 _ _ (word_lt t1) (by decide)] at e
          exact asc8 (by omega) (cast_zero e)
        · refine Tot.bindq (P := fun t2 => t2.size < t.size ∧ validD (bytesOf t2) = validD (bytesOf t)) ?_ fun t2 ⟨z2, v2⟩ => ?_
          · refine Tot.ite (fun h3 => ?_) (fun h3 => Tot.ret ⟨by omega, v1⟩)
            obtain ⟨h8, a8⟩ := hr h3
            refine Tot.bind0 (tail_at (k := 8) (by omega)) ?_
            have z2 : (t1.extract 8 t1.size).size = t1.size - 8 := ext_size t1 8
            have v2 := skip a8
            generalize t1.extract 8 t1.size = t2 at z2 v2
            refine Tot.bindq (P := fun r => r = true → 16 < t2.size ∧ Asc t2 16) ?_ fun r hr => ?_
            · refine Tot.ite (fun h4 => ?_) (fun h4 => Tot.ret (fun e => by cases e))
              have h4 : 16 < t2.size := by have : ((t2.size : Nat) : Int) > 16 := of_decide_eq_true h4; omega
              refine Tot.bind0 (tail_at (k := 8) (by omega)) ?_
              have z3 : (t2.extract 8 t2.size).size = t2.size - 8 := ext_size t2 8
              refine Tot.bindq (word_tot (by omega)) fun r hr => Tot.bindq (word_tot (by omega)) fun r' hr' => Tot.ret fun e => ⟨h4, ?_⟩
              have l1 := word_lt t2
              have l2 := word_lt (t2.extract 8 t2.size)
              have k1 := asc8 (t := t2) (by omega)
              have k2 := asc8 (t := t2.extract 8 t2.size) (by omega)
              generalize leNat [t2.get! 0, t2.get! 1, t2.get! 2, t2.get! 3, t2.get! 4, t2.get! 5, t2.get! 6, t2.get! 7] = n1 at hr l1 k1
              generalize leNat [(t2.extract 8 t2.size).get! 0, (t2.extract 8 t2.size).get! 1, (t2.extract 8 t2.size).get! 2, (t2.extract 8 t2.size).get! 3, (t2.extract 8 t2.size).get! 4, (t2.extract 8 t2.size).get! 5, (t2.extract 8 t2.size).get! 6, (t2.extract 8 t2.size).get! 7] = n2 at hr' l2 k2
              subst hr hr'
              have m1 : n1 ||| n2 < 18446744073709551616 := Nat.or_lt_two_pow (n := 64) l1 l2
              rw [or64 _ _ l1 l2, show (9259542123273814144 : Int) = ((9259542123273814144 : Nat) : Int) from rfl, and64 _ _ m1 (by decide)] at e
              obtain ⟨e1, e2⟩ := (or_mask _ _ _).1 (cast_zero e)
              exact asc_add t2 8 8 (k1 e1) (k2 e2)
            · refine Tot.ite (fun h5 => ?_) (fun h5 => Tot.ret ⟨by omega, by rw [v2, v1]⟩)
              obtain ⟨h16, a16⟩ := hr h5
              refine Tot.bind0 (tail_at (k := 16) (by omega)) ?_
              have z3 : (t2.extract 16 t2.size).size = t2.size - 16 := ext_size t2 16
              have v3 := skip a16
              generalize t2.extract 16 t2.size = t3 at z3 v3
              refine Tot.bindq (P := fun t4 => t4.size ≤ t3.size ∧ validD (bytesOf t4) = validD (bytesOf t3)) ?_ fun t4 ⟨z4, v4⟩ => Tot.ret ⟨by omega, by rw [v4, v3, v2, v1]⟩
              refine Tot.loop (fun u => u.size ≤ t3.size ∧ validD (bytesOf u) = validD (bytesOf t3)) (fun u => u.size) ⟨Nat.le_refl _, rfl⟩ fun u ⟨zu, vu⟩ => ?_
              refine Tot.bindq (P := fun r => r = true → 32 < u.size ∧ Asc u 32) ?_ fun r hr => ?_
              · refine Tot.ite (fun h6 => ?_) (fun h6 => Tot.ret (fun e => by cases e))
                have h6 : 32 < u.size := by have : ((u.size : Nat) : Int) > 32 := of_decide_eq_true h6; omega
                refine Tot.bind0 (tail_at (k := 8) (by omega)) (Tot.bind0 (tail_at (k := 16) (by omega)) (Tot.bind0 (tail_at (k := 24) (by omega)) ?_))
                have y1 : (u.extract 8 u.size).size = u.size - 8 := ext_size u 8
                have y2 : (u.extract 16 u.size).size = u.size - 16 := ext_size u 16
                have y3 : (u.extract 24 u.size).size = u.size - 24 := ext_size u 24
                refine Tot.bindq (word_tot (by omega)) fun r1 hr1 => Tot.bindq (word_tot (by omega)) fun r2 hr2 => Tot.bindq (word_tot (by omega)) fun r3 hr3 => Tot.bindq (word_tot (by omega)) fun r4 hr4 => Tot.ret fun e => ⟨h6, ?_⟩
                have l1 := word_lt u
                have l2 := word_lt (u.extract 8 u.size)
                have l3 := word_lt (u.extract 16 u.size)
                have l4 := word_lt (u.extract 24 u.size)
                have k1 := asc8 (t := u) (by omega)
                have k2 := asc8 (t := u.extract 8 u.size) (by omega)
                have k3 := asc8 (t := u.extract 16 u.size) (by omega)
                have k4 := asc8 (t := u.extract 24 u.size) (by omega)
                generalize leNat [u.get! 0, u.get! 1, u.get! 2, u.get! 3, u.get! 4, u.get! 5, u.get! 6, u.get! 7] = n1 at hr1 l1 k1
                generalize leNat [(u.extract 8 u.size).get! 0, (u.extract 8 u.size).get! 1, (u.extract 8 u.size).get! 2, (u.extract 8 u.size).get! 3, (u.extract 8 u.size).get! 4, (u.extract 8 u.size).get! 5, (u.extract 8 u.size).get! 6, (u.extract 8 u.size).get! 7] = n2 at hr2 l2 k2
                generalize leNat [(u.extract 16 u.size).get! 0, (u.extract 16 u.size).get! 1, (u.extract 16 u.size).get! 2, (u.extract 16 u.size).get! 3, (u.extract 16 u.size).get! 4, (u.extract 16 u.size).get! 5, (u.extract 16 u.size).get! 6, (u.extract 16 u.size).get! 7] = n3 at hr3 l3 k3
                generalize leNat [(u.extract 24 u.size).get! 0, (u.extract 24 u.size).get! 1, (u.extract 24 u.size).get! 2, (u.extract 24 u.size).get! 3, (u.extract 24 u.size).get! 4, (u.extract 24 u.size).get! 5, (u.extract 24 u.size).get! 6, (u.extract 24 u.size).get! 7] = n4 at hr4 l4 k4
                subst hr1 hr2 hr3 hr4
                have m1 : n1 ||| n2 < 18446744073709551616 := Nat.or_lt_two_pow (n := 64) l1 l2
                have m2 : n3 ||| n4 < 18446744073709551616 := Nat.or_lt_two_pow (n := 64) l3 l4
                have m3 : (n1 ||| n2) ||| (n3 ||| n4) < 18446744073709551616 := Nat.or_lt_two_pow (n := 64) m1 m2
                rw [or64 _ _ l1 l2, or64 _ _ l3 l4, or64 _ _ m1 m2, show (9259542123273814144 : Int) = ((9259542123273814144 : Nat) : Int) from rfl, and64 _ _ m3 (by decide)] at e
                obtain ⟨e1, e2⟩ := (or_mask _ _ _).1 (cast_zero e)
                obtain ⟨e1, e3⟩ := (or_mask _ _ _).1 e1
                obtain ⟨e2, e4⟩ := (or_mask _ _ _).1 e2
                exact asc_add u 24 8 (asc_add u 16 8 (asc_add u 8 8 (k1 e1) (k2 e3)) (k3 e2)) (k4 e4)
              · refine Tot.ite (fun h7 => ?_) (fun h7 => Tot.ret ⟨zu, vu⟩)
                obtain ⟨h32, a32⟩ := hr h7
                refine Tot.bind0 (tail_at (k := 32) (by omega)) (Tot.ret ?_)
                have z5 : (u.extract 32 u.size).size = u.size - 32 := ext_size u 32
                exact ⟨⟨by omega, by rw [skip a32, vu]⟩, by omega⟩
          · exact Tot.ret ⟨⟨by omega, by rw [v2, hv]⟩, z2⟩
      · have h1 : 128 ≤ (t.get! 0).toNat := by have : ¬ ((t.get! 0).toNat : Int) < 128 := of_decide_eq_false h1; omega
        have b0 := byte_lt (t.get! 0)
        have hlead := validD_lead (bytesOf t) (by intro e; have := size_bytes t; rw [e, List.length_nil] at this; omega) (by rw [← get_getD]; exact h1)
        rw [hv, ← get_getD, ← get_getD, ← get_getD, ← get_getD, ← size_bytes] at hlead
        obtain ⟨f1, f2, f3⟩ := first_parts b0
        have hf := firstT_lt (t.get! 0).toNat
        refine Tot.bind0 (first_at b0) (Tot.some_bind ?_)
        rw [f2, f3]
        have h16 : firstT (t.get! 0).toNat / 16 < 16 := by omega
        refine Tot.bind0 (acc_at h16) ?_
        generalize accLo (firstT (t.get! 0).toNat / 16) = lo at hlead
        generalize accHi (firstT (t.get! 0).toNat / 16) = hi at hlead
        generalize firstT (t.get! 0).toNat % 8 = sz at hlead
        have go : ∀ {k : Nat}, 0 < k → k ≤ t.size → validD (bytesOf s) = validD ((bytesOf t).drop k) → ((t.extract k t.size).size ≤ s.size ∧ validD (bytesOf (t.extract k t.size)) = validD (bytesOf s)) ∧ (t.extract k t.size).size < t.size := fun {k} hk0 hk hvk => by
          have z := ext_size t k
          refine ⟨⟨by omega, ?_⟩, by omega⟩
          rw [hvk]
          show validD (t.extract k t.size).data.toList = _
          rw [ext_list]; rfl
        refine Tot.bindq (P := fun r => (r = .inr (.inr (.inr false)) ∧ validD (bytesOf s) = false) ∨ ∃ t', r = .inl t' ∧ (t'.size ≤ s.size ∧ validD (bytesOf t') = validD (bytesOf s)) ∧ t'.size < t.size) ?_ fun r hr => ?_
        · unfold checkN at hlead
          refine Tot.ite (fun h2 => ?_) (fun h2 => Tot.ite (fun h3 => ?_) (fun h3 => Tot.ite (fun h4 => ?_) (fun h4 => ?_)))
          · have h2 : sz = 2 := by have := eq_of_beq h2; omega
            rw [if_pos h2] at hlead
            refine Tot.bindq (P := fun r => r = decide (t.size < 2 ∨ (t.get! 1).toNat < lo ∨ hi < (t.get! 1).toNat)) ?_ fun r hr => ?_
            · refine Tot.ite (fun q => ?_) (fun q => ?_)
              · have q : (t.size : Int) < 2 := of_decide_eq_true q
                exact Tot.ret (decide_eq_true (.inl (by omega))).symm
              · have q : ¬ (t.size : Int) < 2 := of_decide_eq_false q
                refine Tot.bind0 (get_sidx (i := 1) (by omega)) (Tot.ite (fun q1 => ?_) (fun q1 => ?_))
                · have q1 : ((t.get! 1).toNat : Int) < (lo : Int) := of_decide_eq_true q1
                  exact Tot.ret (decide_eq_true (.inr (.inl (by omega)))).symm
                · have q1 : ¬ ((t.get! 1).toNat : Int) < (lo : Int) := of_decide_eq_false q1
                  refine Tot.bind0 (get_sidx (i := 1) (by omega)) (Tot.ret (decide_eq_decide.2 ⟨fun h => .inr (.inr (by omega)), fun h => ?_⟩))
                  dsimp only at h ⊢
                  omega
            · subst hr
              refine Tot.ite (fun q => ?_) (fun q => ?_)
              · have q := of_decide_eq_true q
                rw [if_pos q] at hlead
                exact Tot.ret (.inl ⟨rfl, hlead⟩)
              · have q := of_decide_eq_false q
                rw [if_neg q] at hlead
                refine Tot.bind0 (tail_at (k := 2) (by omega)) (Tot.ret (.inr ⟨_, rfl, go (by omega) (by omega) hlead⟩))
          · have h3 : sz = 3 := by have := eq_of_beq h3; omega
            rw [if_neg (by omega), if_pos h3] at hlead
            refine Tot.bindq (P := fun r => r = decide (t.size < 3 ∨ (t.get! 1).toNat < lo ∨ hi < (t.get! 1).toNat ∨ (t.get! 2).toNat < 128 ∨ 191 < (t.get! 2).toNat)) ?_ fun r hr => ?_
            · refine Tot.ite (fun q => ?_) (fun q => ?_)
              · have q : (t.size : Int) < 3 := of_decide_eq_true q
                exact Tot.ret (decide_eq_true (.inl (by omega))).symm
              have q : ¬ (t.size : Int) < 3 := of_decide_eq_false q
              refine Tot.bind0 (get_sidx (i := 1) (by omega)) (Tot.ite (fun q1 => ?_) (fun q1 => ?_))
              · have q1 : ((t.get! 1).toNat : Int) < (lo : Int) := of_decide_eq_true q1
                exact Tot.ret (decide_eq_true (.inr (.inl (by omega)))).symm
              have q1 : ¬ ((t.get! 1).toNat : Int) < (lo : Int) := of_decide_eq_false q1
              refine Tot.bind0 (get_sidx (i := 1) (by omega)) (Tot.ite (fun q2 => ?_) (fun q2 => ?_))
              · have q2 : (hi : Int) < ((t.get! 1).toNat : Int) := of_decide_eq_true q2
                exact Tot.ret (decide_eq_true (.inr (.inr (.inl (by omega))))).symm
              have q2 : ¬ (hi : Int) < ((t.get! 1).toNat : Int) := of_decide_eq_false q2
              refine Tot.bind0 (get_sidx (i := 2) (by omega)) (Tot.ite (fun q3 => ?_) (fun q3 => ?_))
              · have q3 : ((t.get! 2).toNat : Int) < 128 := of_decide_eq_true q3
                exact Tot.ret (decide_eq_true (.inr (.inr (.inr (.inl (by omega)))))).symm
              have q3 : ¬ ((t.get! 2).toNat : Int) < 128 := of_decide_eq_false q3
              refine Tot.bind0 (get_sidx (i := 2) (by omega)) (Tot.ret (decide_eq_decide.2 ⟨fun h => .inr (.inr (.inr (.inr (by omega)))), fun h => ?_⟩))
              omega
            · subst hr
              refine Tot.ite (fun q => ?_) (fun q => ?_)
              · have q := of_decide_eq_true q
                rw [if_pos q] at hlead
                exact Tot.ret (.inl ⟨rfl, hlead⟩)
              · have q := of_decide_eq_false q
                rw [if_neg q] at hlead
                refine Tot.bind0 (tail_at (k := 3) (by omega)) (Tot.ret (.inr ⟨_, rfl, go (by omega) (by omega) hlead⟩))
          · have h4 : sz = 4 := by have := eq_of_beq h4; omega
            rw [if_neg (by omega), if_neg (by omega), if_pos h4] at hlead
            refine Tot.bindq (P := fun r => r = decide (t.size < 4 ∨ (t.get! 1).toNat < lo ∨ hi < (t.get! 1).toNat ∨ (t.get! 2).toNat < 128 ∨ 191 < (t.get! 2).toNat ∨ (t.get! 3).toNat < 128 ∨ 191 < (t.get! 3).toNat)) ?_ fun r hr => ?_
            · refine Tot.ite (fun q => ?_) (fun q => ?_)
              · have q : (t.size : Int) < 4 := of_decide_eq_true q
                exact Tot.ret (decide_eq_true (.inl (by omega))).symm
              have q : ¬ (t.size : Int) < 4 := of_decide_eq_false q
              refine Tot.bind0 (get_sidx (i := 1) (by omega)) (Tot.ite (fun q1 => ?_) (fun q1 => ?_))
              · have q1 : ((t.get! 1).toNat : Int) < (lo : Int) := of_decide_eq_true q1
                exact Tot.ret (decide_eq_true (.inr (.inl (by omega)))).symm
              have q1 : ¬ ((t.get! 1).toNat : Int) < (lo : Int) := of_decide_eq_false q1
              refine Tot.bind0 (get_sidx (i := 1) (by omega)) (Tot.ite (fun q2 => ?_) (fun q2 => ?_))
              · have q2 : (hi : Int) < ((t.get! 1).toNat : Int) := of_decide_eq_true q2
                exact Tot.ret (decide_eq_true (.inr (.inr (.inl (by omega))))).symm
              have q2 : ¬ (hi : Int) < ((t.get! 1).toNat : Int) := of_decide_eq_false q2
              refine Tot.bind0 (get_sidx (i := 2) (by omega)) (Tot.ite (fun q3 => ?_) (fun q3 => ?_))
              · have q3 : ((t.get! 2).toNat : Int) < 128 := of_decide_eq_true q3
                exact Tot.ret (decide_eq_true (.inr (.inr (.inr (.inl (by omega)))))).symm
              have q3 : ¬ ((t.get! 2).toNat : Int) < 128 := of_decide_eq_false q3
              refine Tot.bind0 (get_sidx (i := 2) (by omega)) (Tot.ite (fun q4 => ?_) (fun q4 => ?_))
              · have q4 : 191 < ((t.get! 2).toNat : Int) := of_decide_eq_true q4
                exact Tot.ret (decide_eq_true (.inr (.inr (.inr (.inr (.inl (by omega))))))).symm
              have q4 : ¬ 191 < ((t.get! 2).toNat : Int) := of_decide_eq_false q4
              refine Tot.bind0 (get_sidx (i := 3) (by omega)) (Tot.ite (fun q5 => ?_) (fun q5 => ?_))
              · have q5 : ((t.get! 3).toNat : Int) < 128 := of_decide_eq_true q5
                exact Tot.ret (decide_eq_true (.inr (.inr (.inr (.inr (.inr (.inl (by omega)))))))).symm
              have q5 : ¬ ((t.get! 3).toNat : Int) < 128 := of_decide_eq_false q5
              refine Tot.bind0 (get_sidx (i := 3) (by omega)) (Tot.ret (decide_eq_decide.2 ⟨fun h => .inr (.inr (.inr (.inr (.inr (.inr (by omega)))))), fun h => ?_⟩))
              omega
            · subst hr
              refine Tot.ite (fun q => ?_) (fun q => ?_)
              · have q := of_decide_eq_true q
                rw [if_pos q] at hlead
                exact Tot.ret (.inl ⟨rfl, hlead⟩)
              · have q := of_decide_eq_false q
                rw [if_neg q] at hlead
                refine Tot.bind0 (tail_at (k := 4) (by omega)) (Tot.ret (.inr ⟨_, rfl, go (by omega) (by omega) hlead⟩))
          · have n2 : sz ≠ 2 := fun e => by subst e; cases h2
            have n3 : sz ≠ 3 := fun e => by subst e; cases h3
            have n4 : sz ≠ 4 := fun e => by subst e; cases h4
            rw [if_neg n2, if_neg n3, if_neg n4] at hlead
            exact Tot.ret (.inl ⟨rfl, hlead⟩)
        · rcases hr with ⟨e, hb⟩ | ⟨t', e, hb, hl⟩
          · subst e
            exact Tot.contr (.inl ⟨false, rfl, hb.symm⟩)
          · subst e
            exact Tot.contl (Tot.ret ⟨hb, hl⟩)
    · have h : t.size = 0 := by have : ¬ ((t.size : Nat) : Int) > 0 := of_decide_eq_false h; omega
      refine Tot.ret (.inr ⟨rfl, ?_⟩)
      rw [← hv, show bytesOf t = [] from List.length_eq_zero_iff.1 (by rw [← size_bytes]; exact h)]
      rfl
  · rcases hr with ⟨b, e, hb⟩ | ⟨e, hb⟩
    · subst e; exact Tot.contr hb
    · subst e; exact Tot.contl (Tot.ret hb.symm)
end Go.Gv.R
namespace Go.Gv.R
open Go Go.Gv Go.Gv.D Go.Lib

theorem getD_idx {l : List UInt8} {i : Nat} (h : i < l.length) : idx l (i : Int) = some (l.getD i 0) := by
  rw [idx_nat h]; simp [h]
end Go.Gv.R
namespace Go.Gv.R
open Go Go.Gv Go.Gv.D Go.Lib

/-! ### scalars, and texts of them -/
def Scal (r : Nat) : Prop := r < 55296 ∨ (57343 < r ∧ r ≤ 1114111)
def encR (r : Nat) : List UInt8 := encodeRune (r : Int)
def enc (l : List Nat) : List UInt8 := l.flatMap encR
theorem encR_pos (r : Nat) : 1 ≤ (encR r).length ∧ (encR r).length ≤ 4 := by
  have := encodeRuneZ_length (r : Int)
  unfold encR encodeRune
  rw [List.length_map]; exact this
/-- ENCODED AND DECODED. -/
theorem decode_enc (r : Nat) (h : Scal r) (t : List UInt8) : decodeL (encR r ++ t) = (r, (encR r).length) := by
  rw [decodeL_N]
  unfold encR encodeRune
  have hb : ∀ z : Int, 0 ≤ z → z < 256 → (z.toNat.toUInt8).toNat = z.toNat := fun z h1 h2 => by
    show (UInt8.ofNat z.toNat).toNat = _
    rw [UInt8.toNat_ofNat', Nat.mod_eq_of_lt (by omega)]
  unfold Scal at h
  rcases (by omega : r ≤ 127 ∨ (128 ≤ r ∧ r ≤ 2047) ∨ (2048 ≤ r ∧ r ≤ 65535) ∨ 65536 ≤ r) with c | c | c | c
  · rw [encodeRuneZ_one (by omega) (by omega)]
    simp only [List.map_cons, List.map_nil, List.cons_append, List.nil_append, List.getD_cons_zero, List.getD_cons_succ, List.length_cons, List.length_nil]
    rw [hb _ (by omega) (by omega)]
    unfold decodeN
    rw [if_pos (by omega)]; simp
  · rw [encodeRuneZ_two (by omega) (by omega)]
    simp only [List.map_cons, List.map_nil, List.cons_append, List.nil_append, List.getD_cons_zero, List.getD_cons_succ, List.length_cons, List.length_nil]
    rw [hb _ (by omega) (by omega), hb _ (by omega) (by omega)]
    unfold decodeN
    rw [if_neg (by omega), if_pos ⟨by omega, by omega, by omega⟩, if_pos (by omega)]
    congr 1; omega
  · rw [encodeRuneZ_three (by omega)]
    simp only [List.map_cons, List.map_nil, List.cons_append, List.nil_append, List.getD_cons_zero, List.getD_cons_succ, List.length_cons, List.length_nil]
    rw [hb _ (by omega) (by omega), hb _ (by omega) (by omega), hb _ (by omega) (by omega)]
    unfold decodeN
    rw [if_neg (by omega), if_neg (by omega), if_pos ⟨by omega, ⟨by omega, by omega⟩, by omega, by omega⟩, if_pos ⟨by omega, by omega⟩]
    congr 1; omega
  · rw [encodeRuneZ_four (by omega) (by omega)]
    simp only [List.map_cons, List.map_nil, List.cons_append, List.nil_append, List.getD_cons_zero, List.getD_cons_succ, List.length_cons, List.length_nil]
    rw [hb _ (by omega) (by omega), hb _ (by omega) (by omega), hb _ (by omega) (by omega), hb _ (by omega) (by omega)]
    unfold decodeN
    rw [if_neg (by omega), if_neg (by omega), if_neg (by omega), if_pos ⟨by omega, ⟨by omega, by omega⟩, ⟨by omega, by omega⟩, by omega, by omega⟩, if_pos ⟨by omega, by omega⟩]
    congr 1; omega
theorem enc_cons (r : Nat) (l : List Nat) : enc (r :: l) = encR r ++ enc l := by simp [enc]
theorem enc_app (l m : List Nat) : enc (l ++ m) = enc l ++ enc m := by simp [enc]
theorem enc_ne {r : Nat} {l : List Nat} : enc (r :: l) ≠ [] := by
  have := encR_pos r
  rw [enc_cons]
  intro e
  have := congrArg List.length e
  rw [List.length_append, List.length_nil] at this
  omega
theorem not_bad {r : Nat} (h : Scal r) : ¬ (r = 65533 ∧ (encR r).length = 1) := fun ⟨e, h2⟩ => by
  subst e
  have : (encR 65533).length = 3 := by kernel_rfl
  omega
theorem valid_enc : ∀ (l : List Nat), (∀ r ∈ l, Scal r) → validD (enc l) = true
  | [], _ => rfl
  | r :: l, h => by
    have hr := h r (by simp)
    rw [validD_step _ enc_ne, enc_cons, decode_enc r hr, if_neg (not_bad hr)]
    rw [List.drop_left]
    exact valid_enc l fun x hx => h x (by simp [hx])
theorem decode_scal {l : List UInt8} (hne : l ≠ []) (hv : ¬ ((decodeL l).1 = 65533 ∧ (decodeL l).2 = 1)) : Scal (decodeL l).1 := by
  rw [decodeL_N] at *
  have k0 := byte_lt (l.getD 0 0)
  have k1 := byte_lt (l.getD 1 0)
  unfold Scal
  rcases decodeN_shape l.length (l.getD 0 0).toNat (l.getD 1 0).toNat (l.getD 2 0).toNat (l.getD 3 0).toNat with ⟨c, e⟩ | ⟨c1, c2, c3, cv, e⟩ | ⟨c1, c2, c3, c4, cv, cs, e⟩ | ⟨c1, c2, c3, c4, c5, cv, cw, e⟩ | e
  · rw [e]; dsimp only; omega
  · rw [e]; dsimp only; omega
  · rw [e]; dsimp only; omega
  · rw [e]; dsimp only; omega
  · rw [e] at hv; exact absurd ⟨rfl, rfl⟩ hv
theorem enc_of_valid : ∀ (n : Nat) (l : List UInt8), l.length ≤ n → validD l = true → ∃ p, (∀ r ∈ p, Scal r) ∧ l = enc p
  | _, [], _, _ => ⟨[], by simp, rfl⟩
  | 0, _ :: _, h, _ => by simp at h
  | n + 1, x :: t, h, hv => by
    have hne : x :: t ≠ [] := by simp
    rw [validD_step _ hne] at hv
    split at hv
    · cases hv
    · rename_i hb
      have hw := decodeL_width (x :: t)
      obtain ⟨p, hp, e⟩ := enc_of_valid n ((x :: t).drop (decodeL (x :: t)).2) (by rw [List.length_drop]; simp only [List.length_cons] at h ⊢; omega) hv
      refine ⟨(decodeL (x :: t)).1 :: p, ?_, ?_⟩
      · intro r hr
        rcases List.mem_cons.1 hr with h' | h'
        · rw [h']; exact decode_scal hne hb
        · exact hp r h'
      · rw [enc_cons, ← e, encR, encode_decode _ hne hb, List.take_append_drop]
theorem valid_iff {l : List UInt8} (h : validD l = true) : ∃ p, (∀ r ∈ p, Scal r) ∧ l = enc p := enc_of_valid _ l (Nat.le_refl _) h
end Go.Gv.R
namespace Go.Gv.R
open Go Go.Gv Go.Gv.D Go.Lib

/-! ### the reference's unit -/
def bad (x : Nat × Nat) : Prop := x.1 = 65533 ∧ x.2 = 1
instance (x : Nat × Nat) : Decidable (bad x) := inferInstanceAs (Decidable (_ ∧ _))
def U (l : List UInt8) : Int × Int := if bad (decodeL l) then (0, 0) else (((decodeL l).1 : Int), ((decodeL l).2 : Int))
theorem behind_tot {s : List UInt8} {i : Nat} (hs : s.length ≤ 1152921504606846976) : Tot (fun fuel => ref4_behind fuel s (i : Int)) (fun r => ((i < s.length ∧ (s.getD i 0).toNat / 64 = 2) ∧ r = (((s.getD i 0).toNat % 64 : Nat) : Int)) ∨ (¬ (i < s.length ∧ (s.getD i 0).toNat / 64 = 2) ∧ r = -1)) := by
  unfold ref4_behind
  have hb := byte_lt (s.getD i 0)
  refine Tot.bindq (P := fun r => r = decide (i < s.length ∧ (s.getD i 0).toNat / 64 = 2)) ?_ fun r hr => ?_
  · refine Tot.ite (fun h => ?_) (fun h => ?_)
    · have h : i < s.length := by have : ((i : Nat) : Int) < (s.length : Int) := of_decide_eq_true h; omega
      refine Tot.bind0 (getD_idx h) (Tot.ite (fun h2 => ?_) (fun h2 => ?_))
      · have h2 : 128 ≤ (s.getD i 0).toNat := by have : ((s.getD i 0).toNat : Int) ≥ 128 := of_decide_eq_true h2; omega
        refine Tot.bind0 (getD_idx h) (Tot.ret (decide_eq_decide.2 ⟨fun g => ⟨h, by omega⟩, fun g => by have := g.2; omega⟩))
      · have h2 : ¬ 128 ≤ (s.getD i 0).toNat := by have : ¬ ((s.getD i 0).toNat : Int) ≥ 128 := of_decide_eq_false h2; omega
        exact Tot.ret (decide_eq_false (by omega)).symm
    · have h : ¬ i < s.length := by have : ¬ ((i : Nat) : Int) < (s.length : Int) := of_decide_eq_false h; omega
      exact Tot.ret (decide_eq_false (by omega)).symm
  · subst hr
    refine Tot.ite (fun h => ?_) (fun h => ?_)
    · have h := of_decide_eq_true h
      refine Tot.bind0 (getD_idx h.1) (Tot.some_bind (Tot.ret (.inl ⟨h, ?_⟩)))
      rw [i64_small (x := ((s.getD i 0).toNat : Int)) (by omega) (by omega), i64_small (by omega) (by omega)]
      omega
    · exact Tot.ret (.inr ⟨of_decide_eq_false h, rfl⟩)
theorem drop_getD (s : List UInt8) (i k : Nat) : (s.drop i).getD k 0 = s.getD (i + k) 0 := by
  rw [List.getD_eq_getElem?_getD, List.getD_eq_getElem?_getD, List.getElem?_drop]
theorem unit_tot {s : List UInt8} {i : Nat} (hi : i < s.length) (hs : s.length ≤ 1152921504606846976) : Tot (fun fuel => ref4_unit fuel s (i : Int)) (fun r => r = U (s.drop i)) := by
  unfold ref4_unit
  have w1 : IntKind.i64.wrap ((i : Int) + 1) = ((i + 1 : Nat) : Int) := by rw [i64_small (by omega) (by omega)]; omega
  have w2 : IntKind.i64.wrap ((i : Int) + 2) = ((i + 2 : Nat) : Int) := by rw [i64_small (by omega) (by omega)]; omega
  have w3 : IntKind.i64.wrap ((i : Int) + 3) = ((i + 3 : Nat) : Int) := by rw [i64_small (by omega) (by omega)]; omega
  rw [w1, w2, w3]
  unfold U
  rw [decodeL_N, drop_getD, drop_getD, drop_getD, drop_getD, List.length_drop, Nat.add_zero]
  have b0 := byte_lt (s.getD i 0)
  have b1 := byte_lt (s.getD (i + 1) 0)
  have b2 := byte_lt (s.getD (i + 2) 0)
  have b3 := byte_lt (s.getD (i + 3) 0)
  refine Tot.bind0 (getD_idx hi) (Tot.bindq (behind_tot hs) fun r1 h1 => Tot.bindq (behind_tot hs) fun r2 h2 => Tot.bindq (behind_tot hs) fun r3 h3 => ?_)
  rw [i64_small (x := ((s.getD i 0).toNat : Int)) (by omega) (by omega)]
  have e1 : (i + 1 < s.length) = (1 < s.length - i) := propext ⟨fun h => by omega, fun h => by omega⟩
  have e2 : (i + 2 < s.length) = (2 < s.length - i) := propext ⟨fun h => by omega, fun h => by omega⟩
  have e3 : (i + 3 < s.length) = (3 < s.length - i) := propext ⟨fun h => by omega, fun h => by omega⟩
  rw [e1] at h1
  rw [e2] at h2
  rw [e3] at h3
  generalize (s.getD i 0).toNat = x0 at *
  generalize (s.getD (i + 1) 0).toNat = x1 at *
  generalize (s.getD (i + 2) 0).toNat = x2 at *
  generalize (s.getD (i + 3) 0).toNat = x3 at *
  have hn : 0 < s.length - i := by omega
  generalize s.length - i = n at *
  clear e1 e2 e3 w1 w2 w3 hi hs
  have hr1 : r1 ≥ 0 ↔ (1 < n ∧ x1 / 64 = 2) := by rcases h1 with ⟨a, b⟩ | ⟨a, b⟩ <;> constructor <;> intro h <;> first | exact a | omega
  have hr2 : r2 ≥ 0 ↔ (2 < n ∧ x2 / 64 = 2) := by rcases h2 with ⟨a, b⟩ | ⟨a, b⟩ <;> constructor <;> intro h <;> first | exact a | omega
  have hr3 : r3 ≥ 0 ↔ (3 < n ∧ x3 / 64 = 2) := by rcases h3 with ⟨a, b⟩ | ⟨a, b⟩ <;> constructor <;> intro h <;> first | exact a | omega
  have v1 : r1 ≥ 0 → r1 = ((x1 % 64 : Nat) : Int) := fun h => by rcases h1 with ⟨a, b⟩ | ⟨a, b⟩ <;> omega
  have v2 : r2 ≥ 0 → r2 = ((x2 % 64 : Nat) : Int) := fun h => by rcases h2 with ⟨a, b⟩ | ⟨a, b⟩ <;> omega
  have v3 : r3 ≥ 0 → r3 = ((x3 % 64 : Nat) : Int) := fun h => by rcases h3 with ⟨a, b⟩ | ⟨a, b⟩ <;> omega
  clear h1 h2 h3
  have nb : ∀ {v k : Nat}, 2 ≤ k → ¬ bad (v, k) := fun h ⟨_, h'⟩ => by dsimp only at h'; omega
  refine Tot.some_bind (Tot.ite (fun g => ?_) (fun g => ?_))
  · have g : x0 < 128 := by have : (x0 : Int) < 128 := of_decide_eq_true g; omega
    refine Tot.ret ?_
    have hd : decodeN n x0 x1 x2 x3 = (x0, 1) := by
      unfold decodeN
      rw [if_pos g]
    rw [hd, if_neg (fun h => by have := h.1; dsimp only at this; omega)]; rfl
  have g : ¬ x0 < 128 := by have : ¬ (x0 : Int) < 128 := of_decide_eq_false g; omega
  refine Tot.ite (fun q => ?_) (fun q => ?_)
  · simp only [Bool.and_eq_true, decide_eq_true_eq] at q
    obtain ⟨q1, q2, q3⟩ := q
    have a1 := hr1.1 q3
    rw [v1 q3]
    refine Tot.some_bind (Tot.ret ?_)
    have hd : decodeN n x0 x1 x2 x3 = (x0 % 32 * 64 + x1 % 64, 2) := by
      unfold decodeN
      rw [if_neg g, if_pos ⟨by omega, a1⟩, if_pos (by omega)]
    rw [hd, if_neg (nb (by omega))]
    rw [i64_small (x := (x0 : Int) - 192) (by omega) (by omega), i64_small (x := ((x0 : Int) - 192) * 64) (by omega) (by omega), i64_small (by omega) (by omega)]
    refine Prod.ext ?_ rfl
    show ((x0 : Int) - 192) * 64 + ((x1 % 64 : Nat) : Int) = ((x0 % 32 * 64 + x1 % 64 : Nat) : Int)
    omega
  have q : ¬ (x0 ≥ 194 ∧ x0 < 224 ∧ r1 ≥ 0) := fun ⟨h, h', h''⟩ => by
    rw [decide_eq_true (by omega : (x0 : Int) ≥ 194), decide_eq_true (by omega : (x0 : Int) < 224), decide_eq_true h''] at q; cases q
  refine Tot.bindq (P := fun r => (r = .inr (((decodeN n x0 x1 x2 x3).1 : Int), ((decodeN n x0 x1 x2 x3).2 : Int)) ∧ ¬ bad (decodeN n x0 x1 x2 x3)) ∨ (r = .inl () ∧ bad (decodeN n x0 x1 x2 x3))) ?_ fun r hr => ?_
  · refine Tot.ite (fun p => ?_) (fun p => ?_)
    · simp only [Bool.and_eq_true, decide_eq_true_eq] at p
      obtain ⟨p1, p2, p3, p4⟩ := p
      have a1 := hr1.1 p3
      have a2 := hr2.1 p4
      rw [v1 p3, v2 p4]
      have hv : IntKind.i64.wrap (IntKind.i64.wrap (IntKind.i64.wrap (IntKind.i64.wrap ((x0 : Int) - 224) * 4096) + IntKind.i64.wrap (((x1 % 64 : Nat) : Int) * 64)) + ((x2 % 64 : Nat) : Int)) = ((x0 % 16 * 4096 + x1 % 64 * 64 + x2 % 64 : Nat) : Int) := by
        rw [i64_small (x := (x0 : Int) - 224) (by omega) (by omega), i64_small (x := ((x0 : Int) - 224) * 4096) (by omega) (by omega), i64_small (x := ((x1 % 64 : Nat) : Int) * 64) (by omega) (by omega), i64_small (x := ((x0 : Int) - 224) * 4096 + ((x1 % 64 : Nat) : Int) * 64) (by omega) (by omega), i64_small (by omega) (by omega)]
        omega
      rw [hv]
      refine Tot.some_bind (Tot.ite (fun w => ?_) (fun w => ?_))
      · simp only [Bool.and_eq_true, Bool.or_eq_true, decide_eq_true_eq] at w
        have hd : decodeN n x0 x1 x2 x3 = (x0 % 16 * 4096 + x1 % 64 * 64 + x2 % 64, 3) := by
          unfold decodeN
          rw [if_neg g, if_neg (by omega), if_pos ⟨by omega, a1, a2⟩, if_pos ⟨by omega, by omega⟩]
        rw [hd]
        exact Tot.ret (.inl ⟨rfl, nb (by omega)⟩)
      · have w : ¬ (x0 % 16 * 4096 + x1 % 64 * 64 + x2 % 64 ≥ 2048 ∧ (x0 % 16 * 4096 + x1 % 64 * 64 + x2 % 64 < 55296 ∨ x0 % 16 * 4096 + x1 % 64 * 64 + x2 % 64 > 57343)) := fun ⟨h, h'⟩ => by
          have : (decide (((x0 % 16 * 4096 + x1 % 64 * 64 + x2 % 64 : Nat) : Int) ≥ 2048) && (decide (((x0 % 16 * 4096 + x1 % 64 * 64 + x2 % 64 : Nat) : Int) < 55296) || decide (((x0 % 16 * 4096 + x1 % 64 * 64 + x2 % 64 : Nat) : Int) > 57343))) = true := by
            simp only [Bool.and_eq_true, Bool.or_eq_true, decide_eq_true_eq]; omega
          rw [this] at w; cases w
        have hd : decodeN n x0 x1 x2 x3 = (65533, 1) := by
          unfold decodeN
          rw [if_neg g, if_neg (by omega), if_pos ⟨by omega, a1, a2⟩, if_neg (by omega)]
        rw [hd]
        exact Tot.ret (.inr ⟨rfl, rfl, rfl⟩)
    · have p : ¬ (x0 ≥ 224 ∧ x0 < 240 ∧ r1 ≥ 0 ∧ r2 ≥ 0) := fun ⟨h, h', h'', h3⟩ => by
        rw [decide_eq_true (by omega : (x0 : Int) ≥ 224), decide_eq_true (by omega : (x0 : Int) < 240), decide_eq_true h'', decide_eq_true h3] at p; cases p
      refine Tot.ite (fun o => ?_) (fun o => ?_)
      · simp only [Bool.and_eq_true, decide_eq_true_eq] at o
        obtain ⟨p1, p2, p3, p4, p5⟩ := o
        have a1 := hr1.1 p3
        have a2 := hr2.1 p4
        have a3 := hr3.1 p5
        rw [v1 p3, v2 p4, v3 p5]
        have hv : IntKind.i64.wrap (IntKind.i64.wrap (IntKind.i64.wrap (IntKind.i64.wrap (IntKind.i64.wrap ((x0 : Int) - 240) * 262144) + IntKind.i64.wrap (((x1 % 64 : Nat) : Int) * 4096)) + IntKind.i64.wrap (((x2 % 64 : Nat) : Int) * 64)) + ((x3 % 64 : Nat) : Int)) = ((x0 % 8 * 262144 + x1 % 64 * 4096 + x2 % 64 * 64 + x3 % 64 : Nat) : Int) := by
          rw [i64_small (x := (x0 : Int) - 240) (by omega) (by omega), i64_small (x := ((x0 : Int) - 240) * 262144) (by omega) (by omega), i64_small (x := ((x1 % 64 : Nat) : Int) * 4096) (by omega) (by omega), i64_small (x := ((x2 % 64 : Nat) : Int) * 64) (by omega) (by omega), i64_small (x := ((x0 : Int) - 240) * 262144 + ((x1 % 64 : Nat) : Int) * 4096) (by omega) (by omega), i64_small (x := ((x0 : Int) - 240) * 262144 + ((x1 % 64 : Nat) : Int) * 4096 + ((x2 % 64 : Nat) : Int) * 64) (by omega) (by omega), i64_small (by omega) (by omega)]
          omega
        rw [hv]
        refine Tot.some_bind (Tot.ite (fun w => ?_) (fun w => ?_))
        · simp only [Bool.and_eq_true, decide_eq_true_eq] at w
          have hd : decodeN n x0 x1 x2 x3 = (x0 % 8 * 262144 + x1 % 64 * 4096 + x2 % 64 * 64 + x3 % 64, 4) := by
            unfold decodeN
            rw [if_neg g, if_neg (by omega), if_neg (by omega), if_pos ⟨by omega, a1, a2, a3⟩, if_pos ⟨by omega, by omega⟩]
          rw [hd]
          exact Tot.ret (.inl ⟨rfl, nb (by omega)⟩)
        · have w : ¬ (x0 % 8 * 262144 + x1 % 64 * 4096 + x2 % 64 * 64 + x3 % 64 ≥ 65536 ∧ x0 % 8 * 262144 + x1 % 64 * 4096 + x2 % 64 * 64 + x3 % 64 ≤ 1114111) := fun ⟨h, h'⟩ => by
            rw [decide_eq_true (by omega : ((x0 % 8 * 262144 + x1 % 64 * 4096 + x2 % 64 * 64 + x3 % 64 : Nat) : Int) ≥ 65536), decide_eq_true (by omega : ((x0 % 8 * 262144 + x1 % 64 * 4096 + x2 % 64 * 64 + x3 % 64 : Nat) : Int) ≤ 1114111)] at w; cases w
          have hd : decodeN n x0 x1 x2 x3 = (65533, 1) := by
            unfold decodeN
            rw [if_neg g, if_neg (by omega), if_neg (by omega), if_pos ⟨by omega, a1, a2, a3⟩, if_neg (by omega)]
          rw [hd]
          exact Tot.ret (.inr ⟨rfl, rfl, rfl⟩)
      · have o : ¬ (x0 ≥ 240 ∧ x0 < 245 ∧ r1 ≥ 0 ∧ r2 ≥ 0 ∧ r3 ≥ 0) := fun ⟨h, h', h'', h3, h4⟩ => by
          rw [decide_eq_true (by omega : (x0 : Int) ≥ 240), decide_eq_true (by omega : (x0 : Int) < 245), decide_eq_true h'', decide_eq_true h3, decide_eq_true h4] at o; cases o
        have hd : decodeN n x0 x1 x2 x3 = (65533, 1) := by
          rw [hr1] at q
          rw [hr1, hr2] at p
          rw [hr1, hr2, hr3] at o
          unfold decodeN
          repeat' split
          all_goals first | rfl | (exfalso; omega)
        rw [hd]
        exact Tot.ret (.inr ⟨rfl, rfl, rfl⟩)
  · rcases hr with ⟨e, h⟩ | ⟨e, h⟩
    · subst e
      rw [if_neg h]
      exact Tot.contr rfl
    · subst e
      rw [if_pos h]
      exact Tot.contl (Tot.ret rfl)
end Go.Gv.R
namespace Go.Gv.R
open Go Go.Gv Go.Gv.D Go.Lib

theorem enc_inj : ∀ {p q : List Nat}, (∀ r ∈ p, Scal r) → (∀ r ∈ q, Scal r) → enc p = enc q → p = q
  | [], [], _, _, _ => rfl
  | [], r :: q, _, _, e => absurd e.symm enc_ne
  | r :: p, [], _, _, e => absurd e enc_ne
  | r :: p, r' :: q, hp, hq, e => by
    have h1 := decode_enc r (hp r (by simp)) (enc p)
    have h2 := decode_enc r' (hq r' (by simp)) (enc q)
    rw [← enc_cons] at h1 h2
    rw [e, h2] at h1
    have e1 := (Prod.mk.inj h1).1
    subst e1
    rw [enc_cons, enc_cons] at e
    rw [enc_inj (fun x hx => hp x (by simp [hx])) (fun x hx => hq x (by simp [hx])) (List.append_cancel_left e)]
theorem enc_len_ge (p : List Nat) : p.length ≤ (enc p).length := by
  induction p with
  | nil => simp
  | cons r p ih =>
    have := encR_pos r
    rw [enc_cons, List.length_append, List.length_cons]; omega
theorem Points_tot {s_0 : ByteArray} (hs : s_0.size ≤ 1048576) : Tot (fun fuel => ref4_Points fuel s_0) (fun r => (validD (bytesOf s_0) = false ∧ r = ([], false)) ∨ ∃ p, (∀ r ∈ p, Scal r) ∧ bytesOf s_0 = enc p ∧ r = (ints p, true)) := by
  unfold ref4_Points
  have hsz := size_bytes s_0
  rw [hsz] at hs ⊢
  generalize bytesOf s_0 = L at hs ⊢
  refine Tot.bindq (P := fun r => (validD L = false ∧ r = .inr ([], false)) ∨ ∃ p, (∀ r ∈ p, Scal r) ∧ L = enc p ∧ r = .inl (ints p)) ?_ fun r hr => ?_
  · refine Tot.loop (fun st => ∃ p t, (∀ r ∈ p, Scal r) ∧ L = enc p ++ t ∧ validD t = validD L ∧ st.2 = ((enc p).length : Int) ∧ st.1 = ints p) (fun st => L.length - st.2.toNat) ⟨[], L, by simp, rfl, rfl, rfl, rfl⟩ fun st ⟨p, t, hp, hL, hv, e, g⟩ => ?_
    obtain ⟨out, a⟩ := st
    simp only at e g
    subst e g
    dsimp only
    have hlen : L.length = (enc p).length + t.length := by rw [hL, List.length_append]
    refine Tot.ite (fun h => ?_) (fun h => ?_)
    · have h : 0 < t.length := by have : (((enc p).length : Nat) : Int) < (L.length : Int) := of_decide_eq_true h; omega
      have hne : t ≠ [] := List.length_pos_iff.1 h
      refine Tot.bindq (unit_tot (by omega) (by omega)) fun r hr => ?_
      have hd : L.drop (enc p).length = t := by rw [hL, List.drop_left]
      rw [hd] at hr
      have hw := decodeL_width t
      have hle := decodeL_le t hne
      have hvt := validD_step t hne
      by_cases hb : bad (decodeL t)
      · have hu : r = (0, 0) := by rw [hr]; unfold U; rw [if_pos hb]
        subst hu
        rw [if_pos (show (decodeL t).1 = 65533 ∧ (decodeL t).2 = 1 from hb)] at hvt
        exact Tot.it rfl (Tot.ret (.inl ⟨by rw [← hv, hvt], rfl⟩))
      · have hu : r = (((decodeL t).1 : Int), ((decodeL t).2 : Int)) := by rw [hr]; unfold U; rw [if_neg hb]
        subst hu
        rw [if_neg (show ¬ ((decodeL t).1 = 65533 ∧ (decodeL t).2 = 1) from hb)] at hvt
        refine Tot.if_ (beq_eq_false_iff_ne.2 (by dsimp only; omega)) ?_
        have hpl := enc_len_ge p
        refine Tot.bind0 (app_ok (by rw [ints_len]; simp only [List.length_cons, List.length_nil]; omega)) (Tot.ret ?_)
        have hsc := decode_scal hne hb
        have htake : encR (decodeL t).1 = t.take (decodeL t).2 := encode_decode t hne hb
        have hw2 : IntKind.i64.wrap (((enc p).length : Int) + ((decodeL t).2 : Int)) = (((enc (p ++ [(decodeL t).1])).length : Nat) : Int) := by
          rw [i64_small (by omega) (by omega), enc_app, List.length_append, show enc [(decodeL t).1] = encR (decodeL t).1 by simp [enc], htake, List.length_take]
          omega
        refine ⟨⟨p ++ [(decodeL t).1], t.drop (decodeL t).2, ?_, ?_, by rw [← hvt, hv], hw2, ?_⟩, ?_⟩
        · intro x hx
          rcases List.mem_append.1 hx with h' | h'
          · exact hp x h'
          · rw [List.mem_singleton.1 h']; exact hsc
        · rw [enc_app, show enc [(decodeL t).1] = encR (decodeL t).1 by simp [enc], htake, List.append_assoc, List.take_append_drop, hL]
        · exact (ints_app _ [_]).symm
        · show L.length - (IntKind.i64.wrap (((enc p).length : Int) + ((decodeL t).2 : Int))).toNat < L.length - (((enc p).length : Nat) : Int).toNat
          rw [i64_small (by omega) (by omega)]; omega
    · have h : t = [] := List.length_eq_zero_iff.1 (by have : ¬ (((enc p).length : Nat) : Int) < (L.length : Int) := of_decide_eq_false h; omega)
      subst h
      exact Tot.ret (.inr ⟨p, hp, by rw [hL, List.append_nil], rfl⟩)
  · rcases hr with ⟨h, e⟩ | ⟨p, hp, h, e⟩
    · subst e; exact Tot.contr (.inl ⟨h, rfl⟩)
    · subst e; exact Tot.contl (Tot.ret (.inr ⟨p, hp, h, rfl⟩))
theorem TextOk_tot {s : ByteArray} (hs : s.size ≤ 1048576) : Tot (fun fuel => ref4_TextOk fuel s) (fun r => r = (validD (bytesOf s) && decide (s.size ≤ 4000))) := by
  unfold ref4_TextOk
  refine Tot.bindq (Points_tot hs) fun r hr => Tot.ret ?_
  have hd : decide ((s.size : Int) ≤ 4000) = decide (s.size ≤ 4000) := decide_eq_decide.2 ⟨fun h => by omega, fun h => by omega⟩
  rw [hd]
  rcases hr with ⟨h, e⟩ | ⟨p, hp, h, e⟩
  · rw [e, h]
  · rw [e, h, valid_enc p hp]
/-! ### a text's runes, as the range statement takes them -/
theorem decode_drop (s : ByteArray) (i : Nat) : Utf8.decode s i = decodeL ((bytesOf s).drop i) := by
  rw [decode_at, decodeL_N, drop_getD, drop_getD, drop_getD, drop_getD, List.length_drop, get_getD, get_getD, get_getD, get_getD, size_bytes]
  simp only [Nat.add_zero]
theorem rune_at {s : ByteArray} {p t : List Nat} {r : Nat} (hr : Scal r) (h : bytesOf s = enc (p ++ r :: t)) : runeI s (enc p).length = (r : Int) ∧ runeN s (enc p).length = (encR r).length := by
  unfold runeI runeN
  rw [decode_drop, h, enc_app, List.drop_left, enc_cons, decode_enc r hr]
  exact ⟨rfl, rfl⟩

/-! ### codings -/
def codeR (c : Int) (r : Nat) : List UInt8 :=
  if c = 0 then encR r else if c = 1 then [UInt8.ofNat r] else if r < 65536 then [UInt8.ofNat (r / 256), UInt8.ofNat (r % 256)]
  else [UInt8.ofNat (216 + (r - 65536) / 1024 / 256), UInt8.ofNat ((r - 65536) / 1024 % 256), UInt8.ofNat (220 + (r - 65536) % 1024 / 256), UInt8.ofNat ((r - 65536) % 1024 % 256)]
def codeL (c : Int) (p : List Nat) : List UInt8 := p.flatMap (codeR c)
theorem codeR_len (c : Int) (r : Nat) : (codeR c r).length ≤ 4 := by
  unfold codeR
  have := encR_pos r
  repeat' split
  all_goals first | omega | (simp only [List.length_cons, List.length_nil]; omega)
theorem codeL_len (c : Int) (p : List Nat) : (codeL c p).length ≤ 4 * p.length := by
  induction p with
  | nil => simp [codeL]
  | cons r p ih =>
    have := codeR_len c r
    unfold codeL at *
    rw [List.flatMap_cons, List.length_append, List.length_cons]; omega
theorem codeL_zero (p : List Nat) : codeL 0 p = enc p := by
  have : codeR 0 = encR := by funext r; unfold codeR; rw [if_pos rfl]
  unfold codeL enc
  rw [this]
theorem u8_mod (z : Int) : u8 (IntKind.u8.wrap z) = some (UInt8.ofNat (z % 256).toNat) := by
  rw [u8_wrap]
  unfold u8
  rw [if_pos (by omega)]
theorem u8_of {z : Int} {n : Nat} (h : z = (n : Int)) : u8 (IntKind.u8.wrap z) = some (UInt8.ofNat n) := by
  rw [u8_mod]
  congr 1
  apply UInt8.toNat.inj
  rw [UInt8.toNat_ofNat', UInt8.toNat_ofNat']
  omega
end Go.Gv.R
namespace Go.Gv.R
open Go Go.Gv Go.Gv.D Go.Lib

theorem iw {x : Int} {n : Nat} (h : x = (n : Int)) (h' : n < 4611686018427387904) : IntKind.i64.wrap x = (n : Int) := by rw [h, i64_small (by omega) (by omega)]
theorem enc_len_le (p : List Nat) : (enc p).length ≤ 4 * p.length := by rw [← codeL_zero]; exact codeL_len 0 p
theorem enc_snoc (p : List Nat) (r : Nat) : enc (p ++ [r]) = enc p ++ encR r := by rw [enc_app]; simp [enc]
theorem toU8 (n : Nat) : ((n : Int).toNat.toUInt8) = UInt8.ofNat n := by rw [Int.toNat_natCast]
theorem encR1 {r : Nat} (h : r ≤ 127) : encR r = [UInt8.ofNat r] := by
  unfold encR encodeRune
  rw [encodeRuneZ_one (by omega) (by omega)]
  simp only [List.map_cons, List.map_nil, toU8]
theorem encR2 {r : Nat} (h : 128 ≤ r) (h' : r ≤ 2047) : encR r = [UInt8.ofNat (192 + r / 64), UInt8.ofNat (128 + r % 64)] := by
  unfold encR encodeRune
  rw [encodeRuneZ_two (by omega) (by omega), show 192 + (r : Int) / 64 = ((192 + r / 64 : Nat) : Int) by omega, show 128 + (r : Int) % 64 = ((128 + r % 64 : Nat) : Int) by omega]
  simp only [List.map_cons, List.map_nil, toU8]
theorem encR3 {r : Nat} (h : 2048 ≤ r) (h' : r ≤ 65535) (hs : Scal r) : encR r = [UInt8.ofNat (224 + r / 4096), UInt8.ofNat (128 + r / 64 % 64), UInt8.ofNat (128 + r % 64)] := by
  unfold Scal at hs
  unfold encR encodeRune
  rw [encodeRuneZ_three (by omega), show 224 + (r : Int) / 4096 = ((224 + r / 4096 : Nat) : Int) by omega, show 128 + (r : Int) / 64 % 64 = ((128 + r / 64 % 64 : Nat) : Int) by omega, show 128 + (r : Int) % 64 = ((128 + r % 64 : Nat) : Int) by omega]
  simp only [List.map_cons, List.map_nil, toU8]
theorem encR4 {r : Nat} (h : 65536 ≤ r) (h' : r ≤ 1114111) : encR r = [UInt8.ofNat (240 + r / 262144), UInt8.ofNat (128 + r / 4096 % 64), UInt8.ofNat (128 + r / 64 % 64), UInt8.ofNat (128 + r % 64)] := by
  unfold encR encodeRune
  rw [encodeRuneZ_four (by omega) (by omega), show 240 + (r : Int) / 262144 = ((240 + r / 262144 : Nat) : Int) by omega, show 128 + (r : Int) / 4096 % 64 = ((128 + r / 4096 % 64 : Nat) : Int) by omega, show 128 + (r : Int) / 64 % 64 = ((128 + r / 64 % 64 : Nat) : Int) by omega, show 128 + (r : Int) % 64 = ((128 + r % 64 : Nat) : Int) by omega]
  simp only [List.map_cons, List.map_nil, toU8]
theorem td {a : Nat} (k : Nat) (h : a < 4611686018427387904) : IntKind.i64.wrap ((a : Int).tdiv (k : Int)) = ((a / k : Nat) : Int) := by
  have : a / k ≤ a := Nat.div_le_self ..
  rw [Int.tdiv_eq_ediv_of_nonneg (by omega)]
  exact iw (by simp) (by omega)
theorem tm (a k : Nat) : (a : Int).tmod (k : Int) = ((a % k : Nat) : Int) := by
  rw [Int.tmod_eq_emod_of_nonneg (by omega)]; simp
theorem plus (a b : Nat) (h : a + b < 4611686018427387904) : IntKind.i64.wrap ((a : Int) + (b : Int)) = ((a + b : Nat) : Int) := iw (by omega) h
theorem Encoded_tot {p : List Nat} (hp : ∀ r ∈ p, Scal r) (hl : p.length ≤ 100000000) : Tot (fun fuel => ref4_Encoded fuel (ints p)) (fun r => r = enc p) := by
  unfold ref4_Encoded
  refine Tot.bindq (P := fun r => r = enc p) ?_ fun r hr => Tot.ret hr
  refine Tot.loop (fun st => ∃ i : Nat, st.2 = (i : Int) ∧ i ≤ p.length ∧ st.1 = enc (p.take i)) (fun st => p.length - st.2.toNat) ⟨0, rfl, by omega, rfl⟩ fun st ⟨i, e, hi, g⟩ => ?_
  obtain ⟨out, q⟩ := st
  simp only at e g
  subst e g
  dsimp only
  rw [ints_len]
  refine Tot.ite (fun h => ?_) (fun h => ?_)
  · have hq : i < p.length := by have : ((i : Nat) : Int) < (p.length : Int) := of_decide_eq_true h; omega
    have hr := hp _ (List.getElem_mem hq)
    have hlen := enc_len_le (p.take i)
    rw [List.length_take] at hlen
    refine Tot.bind0 (ints_get hq) ?_
    refine Tot.bindq (P := fun r => r = enc (p.take (i + 1))) ?_ fun r hr => ?_
    · rw [take_snoc hq, enc_snoc]
      have hsc := hr
      have hrs : p[i] ≤ 1114111 := by unfold Scal at hr; omega
      clear hr
      generalize p[i] = r at hsc hrs
      generalize enc (p.take i) = A at hlen
      have happ : ∀ y : List UInt8, y.length ≤ 4 → app A y = some (A ++ y) := fun y hy => app_ok (by omega)
      refine Tot.ite (fun c => ?_) (fun c => ?_)
      · have c : r < 128 := by have : (r : Int) < 128 := of_decide_eq_true c; omega
        rw [encR1 (by omega)]
        exact Tot.bind0 (u8_of rfl) (Tot.bind0 (happ _ (by simp)) (Tot.ret rfl))
      have c : ¬ r < 128 := by have : ¬ (r : Int) < 128 := of_decide_eq_false c; omega
      refine Tot.ite (fun c2 => ?_) (fun c2 => ?_)
      · have c2 : r < 2048 := by have : (r : Int) < 2048 := of_decide_eq_true c2; omega
        rw [encR2 (by omega) (by omega), show (64 : Int) = ((64 : Nat) : Int) from rfl, td 64 (by omega), tm, show (192 : Int) = ((192 : Nat) : Int) from rfl, show (128 : Int) = ((128 : Nat) : Int) from rfl, plus 192 _ (by omega), plus 128 _ (by omega)]
        exact Tot.bind0 (u8_of rfl) (Tot.bind0 (u8_of rfl) (Tot.bind0 (happ _ (by simp)) (Tot.ret rfl)))
      have c2 : ¬ r < 2048 := by have : ¬ (r : Int) < 2048 := of_decide_eq_false c2; omega
      refine Tot.ite (fun c3 => ?_) (fun c3 => ?_)
      · have c3 : r < 65536 := by have : (r : Int) < 65536 := of_decide_eq_true c3; omega
        rw [encR3 (by omega) (by omega) hsc, show (64 : Int) = ((64 : Nat) : Int) from rfl, show (4096 : Int) = ((4096 : Nat) : Int) from rfl, td 64 (by omega), td 4096 (by omega), tm, tm, show (224 : Int) = ((224 : Nat) : Int) from rfl, show (128 : Int) = ((128 : Nat) : Int) from rfl, plus 224 _ (by omega), plus 128 _ (by omega), plus 128 _ (by omega)]
        exact Tot.bind0 (u8_of rfl) (Tot.bind0 (u8_of rfl) (Tot.bind0 (u8_of rfl) (Tot.bind0 (happ _ (by simp)) (Tot.ret rfl))))
      · have c3 : ¬ r < 65536 := by have : ¬ (r : Int) < 65536 := of_decide_eq_false c3; omega
        rw [encR4 (by omega) (by omega), show (64 : Int) = ((64 : Nat) : Int) from rfl, show (4096 : Int) = ((4096 : Nat) : Int) from rfl, show (262144 : Int) = ((262144 : Nat) : Int) from rfl, td 64 (by omega), td 4096 (by omega), td 262144 (by omega), tm, tm, tm, show (240 : Int) = ((240 : Nat) : Int) from rfl, show (128 : Int) = ((128 : Nat) : Int) from rfl, plus 240 _ (by omega), plus 128 _ (by omega), plus 128 _ (by omega), plus 128 _ (by omega)]
        exact Tot.bind0 (u8_of rfl) (Tot.bind0 (u8_of rfl) (Tot.bind0 (u8_of rfl) (Tot.bind0 (u8_of rfl) (Tot.bind0 (happ _ (by simp)) (Tot.ret rfl)))))
    · subst hr
      refine Tot.ret ⟨⟨i + 1, ?_, hq, rfl⟩, ?_⟩
      · exact iw (by omega) (by omega)
      · show p.length - (IntKind.i64.wrap ((i : Int) + 1)).toNat < p.length - ((i : Nat) : Int).toNat
        rw [iw (n := i + 1) (by omega) (by omega)]; omega
  · have h : i = p.length := by have : ¬ ((i : Nat) : Int) < (p.length : Int) := of_decide_eq_false h; omega
    subst h
    exact Tot.ret (by rw [List.take_length])
theorem String_tot {p : List Nat} (hp : ∀ r ∈ p, Scal r) (hl : p.length ≤ 100000000) : Tot (fun fuel => ref4_String fuel (ints p)) (fun r => r = strOf (enc p)) := by
  unfold ref4_String
  exact Tot.bindq (Encoded_tot hp hl) fun r hr => Tot.ret (by rw [hr])

end Go.Gv.R

