import Derived.Test.YtenjigdaaeiklaaL7
set_option linter.all false
namespace Go.Gv.R
open Go Go.Gv Go.Gv.D

/-! ### drawing bits -/
def lm (c s : Int) (n : Nat) : List Int :=
  if h : n = 0 then [] else (if n < 32 then mixI (stp c s) / 4294967296 / 2 ^ (32 - n) else mixI (stp c s) / 4294967296) :: lm c (stp c s) (n - 32)
  termination_by n
theorem lm_zero (c s : Int) : lm c s 0 = [] := by rw [lm]; rfl
theorem lm_pos (c s : Int) {n : Nat} (h : n ≠ 0) : lm c s n = (if n < 32 then mixI (stp c s) / 4294967296 / 2 ^ (32 - n) else mixI (stp c s) / 4294967296) :: lm c (stp c s) (n - 32) := by
  conv => lhs; rw [lm]
  rw [dif_neg h]
theorem U_mix (x : Int) : U (mixI x) := U_xor _ _
theorem high (x : Int) : 0 ≤ mixI x / 4294967296 ∧ mixI x / 4294967296 < 4294967296 := by
  have := U_mix x
  unfold U at this
  omega

theorem lm_facts (c : Int) : ∀ (n : Nat) (s : Int), Dg (lm c s n) ∧ (lm c s n).length = (n + 31) / 32 ∧ val (lm c s n) < 2 ^ n ∧ (0 < n → mixI (it c s ((n + 31) / 32)) < 9223372036854775808 → val (lm c s n) < 2 ^ (n - 1)) := by
  intro n
  induction n using Nat.strongRecOn with
  | _ n ih =>
    intro s
    by_cases h0 : n = 0
    · subst h0
      rw [lm_zero]
      exact ⟨fun x hx => by simp at hx, rfl, by decide, fun h => absurd h (by decide)⟩
    · rw [lm_pos c s h0]
      have hx := high (stp c s)
      obtain ⟨i1, i2, i3, i4⟩ := ih (n - 32) (by omega) (stp c s)
      have hit : ∀ k, 0 < k → it c s k = it c (stp c s) (k - 1) := fun k hk => by rw [it_shift, Nat.sub_add_cancel hk]
      have hv0 := (val_bound i1).1
      by_cases h32 : n < 32
      · rw [if_pos h32]
        have hz : n - 32 = 0 := by omega
        rw [hz, lm_zero]
        have hp : (0 : Int) < 2 ^ (32 - n) := Int.pow_pos (by decide)
        have hpn : (2 : Int) ^ n * 2 ^ (32 - n) = 4294967296 := by rw [← Int.pow_add, show n + (32 - n) = 32 by omega]; rfl
        have h1 : mixI (stp c s) / 4294967296 / 2 ^ (32 - n) < 2 ^ n := Int.ediv_lt_of_lt_mul hp (by rw [hpn]; exact hx.2)
        have h2 : 0 ≤ mixI (stp c s) / 4294967296 / 2 ^ (32 - n) := Int.ediv_nonneg hx.1 (Int.le_of_lt hp)
        have h3 : (2 : Int) ^ n ≤ 4294967296 := by
          have : (2 : Nat) ^ n ≤ 2 ^ 32 := Nat.pow_le_pow_right (by decide) (by omega)
          have h4 : ((2 ^ n : Nat) : Int) ≤ ((2 ^ 32 : Nat) : Int) := Int.ofNat_le.2 this
          simpa using h4
        refine ⟨Dg.one ⟨h2, Int.lt_of_lt_of_le h1 h3⟩, by simp; omega, by simpa [val] using h1, fun hpos hm => ?_⟩
        have e1 : (n + 31) / 32 = 1 := by omega
        rw [e1] at hm
        have hm : mixI (stp c s) < 9223372036854775808 := hm
        have hpn' : (2 : Int) ^ (n - 1) * 2 ^ (32 - n) = 2147483648 := by rw [← Int.pow_add, show n - 1 + (32 - n) = 31 by omega]; rfl
        have : mixI (stp c s) / 4294967296 / 2 ^ (32 - n) < 2 ^ (n - 1) := Int.ediv_lt_of_lt_mul hp (by rw [hpn']; omega)
        simpa [val] using this
      · rw [if_neg h32]
        have hp2 : (2 : Int) ^ n = 4294967296 * 2 ^ (n - 32) := by
          rw [show n = 32 + (n - 32) by omega, Int.pow_add, show 32 + (n - 32) - 32 = n - 32 by omega]; rfl
        refine ⟨fun y hy => (List.mem_cons.1 hy).elim (fun e => by subst e; exact hx) (i1 y), by simp [i2]; omega, ?_, fun _ hm => ?_⟩
        · simp only [val]
          rw [hp2]
          omega
        · simp only [val]
          by_cases h33 : n = 32
          · subst h33
            have hm : mixI (stp c s) < 9223372036854775808 := hm
            rw [show 32 - 32 = 0 from rfl, lm_zero]
            simp only [val]
            have : (2 : Int) ^ (32 - 1) = 2147483648 := by decide
            omega
          · have e1 : (n + 31) / 32 = (n - 32 + 31) / 32 + 1 := by omega
            rw [e1, ← it_shift] at hm
            have := i4 (by omega) hm
            have hp3 : (2 : Int) ^ (n - 1) = 4294967296 * 2 ^ (n - 32 - 1) := by
              rw [show n - 1 = 32 + (n - 32 - 1) by omega, Int.pow_add]; rfl
            rw [hp3]
            omega

theorem bits_tot {c s : Int} {n : Int} (h0 : 0 ≤ n) (h1 : n ≤ 100000) : Tot (fun fuel => random_source_bits fuel (s, c) n) (fun r => r.1.1 = false ∧ Trim (lm c s n.toNat) r.1.2 ∧ r.2 = (it c s ((n.toNat + 31) / 32), c)) := by
  unfold random_source_bits
  refine Tot.bindq (P := fun r => r.1 = lm c s n.toNat ∧ r.2 = (it c s ((n.toNat + 31) / 32), c)) ?_ fun r ⟨hr1, hr2⟩ => ?_
  · refine Tot.loop (fun st => ∃ k : Nat, st.1 ≤ 100000 ∧ st.1 = n - 32 * k ∧ (k = 0 ∨ -32 < st.1) ∧ st.2.2 = (it c s k, c) ∧ st.2.1.length = k ∧ lm c s n.toNat = st.2.1 ++ lm c (it c s k) st.1.toNat) (fun st => st.1.toNat)
      ⟨0, h1, by omega, .inl rfl, rfl, rfl, rfl⟩ fun st ⟨k, g1, g2, g3, g4, g5, g6⟩ => ?_
    obtain ⟨m, out, t⟩ := st
    simp only at g1 g2 g3 g4 g5 g6
    subst g4
    refine Tot.ite (fun h => ?_) (fun h => ?_)
    · have h : m > 0 := of_decide_eq_true h
      refine Tot.bind0 (next_eq 0 (it c s k) c) (Tot.some_bind ?_)
      have hx := high (stp c (it c s k))
      have e1 : IntKind.u32.wrap ((mixI (stp c (it c s k))).fdiv (2 ^ 32)) = mixI (stp c (it c s k)) / 4294967296 := by
        rw [Int.fdiv_eq_ediv_of_nonneg _ (by decide)]
        exact u32_small hx.1 hx.2
      simp only [e1]
      refine Tot.bindq (P := fun j => j = (if m.toNat < 32 then mixI (stp c (it c s k)) / 4294967296 / 2 ^ (32 - m.toNat) else mixI (stp c (it c s k)) / 4294967296)) ?_ fun j hj => ?_
      · refine Tot.ite (fun hh => ?_) (fun hh => ?_)
        · have hh : m < 32 := of_decide_eq_true hh
          rw [i64_small (x := 32 - m) (by omega) (by omega)]
          refine Tot.bind0 (a := ()) (by unfold nn; rw [if_pos (by omega)]) (Tot.some_bind (Tot.ret ?_))
          rw [if_pos (by omega)]
          unfold shrI
          rw [show min (32 - m).toNat IntKind.u32.bits = 32 - m.toNat by show min (32 - m).toNat 32 = _; omega]
          exact Int.fdiv_eq_ediv_of_nonneg _ (Int.le_of_lt (Int.pow_pos (by decide)))
        · have hh : ¬ m < 32 := of_decide_eq_false hh
          refine Tot.ret ?_
          rw [if_neg (by omega)]
      · have hlm := lm_pos c (it c s k) (show m.toNat ≠ 0 by omega)
        rw [← hj] at hlm
        refine Tot.bind0 (app_ok (by have := congrArg List.length g6; rw [(lm_facts c n.toNat s).2.1] at this; simp at this ⊢; omega)) (Tot.ret ?_)
        have hw : IntKind.i64.wrap (m - 32) = m - 32 := i64_small (by omega) (by omega)
        show (∃ k' : Nat, IntKind.i64.wrap (m - 32) ≤ 100000 ∧ IntKind.i64.wrap (m - 32) = n - 32 * k' ∧ (k' = 0 ∨ -32 < IntKind.i64.wrap (m - 32)) ∧ (stp c (it c s k), c) = (it c s k', c) ∧ (out ++ [j]).length = k' ∧ lm c s n.toNat = (out ++ [j]) ++ lm c (it c s k') (IntKind.i64.wrap (m - 32)).toNat) ∧ (IntKind.i64.wrap (m - 32)).toNat < m.toNat
        rw [hw]
        refine ⟨⟨k + 1, by omega, by omega, .inr (by omega), rfl, by simp [g5], ?_⟩, by omega⟩
        rw [g6, hlm, show (m - 32).toNat = m.toNat - 32 by omega]
        simp
        rfl
    · have h : ¬ m > 0 := of_decide_eq_false h
      have hz : m.toNat = 0 := by omega
      rw [hz, lm_zero, List.append_nil] at g6
      refine Tot.ret ⟨g6.symm, ?_⟩
      have hk : (n.toNat + 31) / 32 = k := by
        have := congrArg List.length g6
        rw [(lm_facts c n.toNat s).2.1, g5] at this
        exact this
      rw [hk]
  · obtain ⟨out, t⟩ := r
    simp only at hr1 hr2
    subst hr1 hr2
    refine Tot.bindq (trim_tot (by rw [(lm_facts c n.toNat s).2.1]; omega)) fun t ht => Tot.ret ⟨rfl, ht, rfl⟩

/-! ### drawing below a number -/
/-- what the m-th try gives -/
def try_ (c s : Int) (size L m : Nat) : List Int := lm c (it c s (m * L)) size
/-- x and the state are what the first try below v gives -/
def Drawn (c s : Int) (v : Int) (x : List Int) (s' : Int) : Prop :=
  ∃ (size : Nat) (m : Nat), Len (v - 1) size ∧ size ≤ 4096 ∧ s' = it c s ((m + 1) * ((size + 31) / 32)) ∧ Trim (try_ c s size ((size + 31) / 32) m) x ∧ val x < v ∧ ∀ m', m' < m → v ≤ val (try_ c s size ((size + 31) / 32) m')
theorem Drawn.ok {c s v : Int} {x : List Int} {s' : Int} (h : Drawn c s v x s') : OkL x ∧ 0 ≤ val x ∧ val x < v := by
  obtain ⟨size, m, h1, h2, h3, h4, h5, h6⟩ := h
  have hf := lm_facts c size (it c s (m * ((size + 31) / 32)))
  have hd := h4.dg hf.1
  have hl := h4.len
  have e : (try_ c s size ((size + 31) / 32) m).length = (size + 31) / 32 := hf.2.1
  exact ⟨⟨hd, h4.nz, by omega⟩, (val_bound hd).1, h5⟩

theorem below_tot {c s : Int} (hc : c % 2 = 1) (hs : U s) {l : List Int} (hl : OkL l) (hv : 1 ≤ val l) : Tot (fun fuel => random_source_below fuel (s, c) (false, l)) (fun r => r.1.1 = false ∧ r.2.2 = c ∧ Drawn c s (val l) r.1.2 r.2.1) := by
  unfold random_source_below
  have hl' : OkI (false, l) := ⟨hl, fun _ => rfl⟩
  have hb := val_lt_big hl
  refine Tot.bindq (Of_tot (n := 1) (by decide) (by decide)) fun one ⟨o1, o2⟩ => ?_
  refine Tot.bindq (Sub_tot hl' o1) fun d hd => ?_
  have ei : ival (false, l) = val l := rfl
  have hBig : 0 < Big := by decide
  rw [ei, o2, if_pos (by omega)] at hd
  obtain ⟨d1, d2, d3⟩ := hd
  have hdv : val d.1.2 = val l - 1 := by
    have := (val_lt_big d2.1).1
    unfold ival at d3
    split at d3
    · rename_i hneg
      have h0 : val d.1.2 = 0 := by omega
      have := d2.2 (val_zero d2.1.1 d2.1.2.1 h0)
      rw [this] at hneg; cases hneg
    · exact d3
  refine Tot.bindq (Bits_tot (a := (d.1.1, d.1.2)) d2) fun b ⟨b1, b2, b3⟩ => ?_
  obtain ⟨size, hsize⟩ : ∃ size : Nat, b.1 = (size : Int) := ⟨b.1.toNat, by have := b2.1; omega⟩
  have b2 : Len (val l - 1) (size : Int) := by rw [← hdv, ← hsize]; exact b2
  have b4 : size ≤ 4096 := by omega
  generalize hL : (size + 31) / 32 = L
  -- some try is below
  have hex : ∃ e : Nat, val (try_ c s size L e) < val l := by
    rcases Nat.eq_zero_or_pos size with h0 | h0
    · refine ⟨0, ?_⟩
      unfold try_
      rw [h0, lm_zero]
      show 0 < val l
      omega
    · obtain ⟨e, he⟩ := low_draw hc hs (n := L) (by omega) (by omega)
      refine ⟨e, ?_⟩
      have := (lm_facts c size (it c s (e * L))).2.2.2 h0 (by
        rw [hL, it_add, show e * L + L = L * (e + 1) by rw [Nat.mul_add, Nat.mul_comm]; omega]
        exact he)
      have h2 := b2.2.2 (by omega)
      simp only [Int.toNat_natCast] at h2
      unfold try_
      omega
  obtain ⟨e, he⟩ := hex
  refine Tot.bindq (P := fun x => ∃ r, x = .inr r ∧ r.1.1 = false ∧ r.2.2 = c ∧ Drawn c s (val l) r.1.2 r.2.1) ?_ fun x ⟨r, hx, hr⟩ => by subst hx; exact Tot.contr hr
  refine Tot.loopI (fun k st => ∃ m, k + m = e ∧ st = ((it c s (m * L), c), (false, [])) ∧ ∀ m', m' < m → val l ≤ val (try_ c s size L m')) (m0 := e) ⟨0, rfl, by simp [it], fun m' h => by omega⟩ fun k st ⟨m, g1, g2, g3⟩ => ?_
  subst g2
  rw [hsize]
  refine Tot.bindq (bits_tot (by omega) (by omega)) fun t ⟨t1, t2, t3⟩ => ?_
  simp only [Int.toNat_natCast] at t2 t3
  have hf := lm_facts c size (it c s (m * L))
  have hd := t2.dg hf.1
  have htl := t2.len
  have htv := t2.val
  rw [hf.2.1] at htl
  have ht : OkI (t.1.1, t.1.2) := ⟨⟨hd, t2.nz, by show t.1.2.length ≤ 128; omega⟩, fun _ => t1⟩
  refine Tot.bindq (Cmp_tot ht hl') fun q ⟨q1, q2, q3⟩ => ?_
  have hi : ival (t.1.1, t.1.2) = val t.1.2 := by rw [t1]; rfl
  rw [hi, ei] at q2
  refine Tot.ite (fun h => ?_) (fun h => ?_)
  · have h : q.1 < 0 := of_decide_eq_true h
    refine Tot.ret ⟨_, rfl, t1, by rw [t3], size, m, b2, b4, ?_, ?_, q2.1 h, ?_⟩
    · rw [t3, hL]
      show it c (it c s (m * L)) L = _
      rw [it_add, show m * L + L = (m + 1) * L by rw [Nat.add_mul]; omega]
    · rw [hL]; exact t2
    · rw [hL]; exact g3
  · have h : ¬ q.1 < 0 := of_decide_eq_false h
    have hnot : val l ≤ val (try_ c s size L m) := by
      have : ¬ val t.1.2 < val l := fun c => h (q2.2 c)
      rw [htv] at this
      unfold try_
      omega
    have hlt : m < e := by
      rcases Nat.lt_trichotomy m e with h1 | h1 | h1
      · exact h1
      · subst h1; omega
      · omega
    refine Tot.ret ⟨k - 1, by omega, m + 1, by omega, ?_, ?_⟩
    · rw [t3]
      show ((it c (it c s (m * L)) ((size + 31) / 32), c), (false, [])) = _
      rw [hL, it_add, show m * L + L = (m + 1) * L by rw [Nat.add_mul]; omega]
    · intro m' hm'
      rcases Nat.lt_or_eq_of_le (Nat.lt_succ_iff.1 hm') with h1 | h1
      · exact g3 m' h1
      · subst h1; exact hnot

/-! ### an integer as a small one -/
theorem or_shift {a b : Int} (ha : 0 ≤ a ∧ a < 4294967296) (hb : 0 ≤ b ∧ b < 4294967296) : bwOr .u64 a (b * 4294967296) = a + b * 4294967296 := by
  unfold bwOr
  have h1 : (BitVec.ofInt 64 a ||| BitVec.ofInt 64 (b * 4294967296)).toNat = a.toNat + b.toNat * 4294967296 := by
    rw [BitVec.toNat_or]
    have e1 : (BitVec.ofInt 64 a).toNat = a.toNat := by simp only [BitVec.toNat_ofInt]; omega
    have e2 : (BitVec.ofInt 64 (b * 4294967296)).toNat = 2 ^ 32 * b.toNat := by simp only [BitVec.toNat_ofInt]; omega
    rw [e1, e2, Nat.or_comm, ← Nat.two_pow_add_eq_or_of_lt (by omega)]
    omega
  show IntKind.u64.wrap ((BitVec.ofInt 64 a ||| BitVec.ofInt 64 (b * 4294967296)).toNat : Int) = _
  rw [h1, u64_wrap]
  omega
theorem or_zero {b : Int} (hb : 0 ≤ b ∧ b < 18446744073709551616) : bwOr .u64 0 b = b := by
  unfold bwOr
  have h1 : (BitVec.ofInt 64 0 ||| BitVec.ofInt 64 b).toNat = b.toNat := by
    rw [BitVec.toNat_or]
    have e2 : (BitVec.ofInt 64 b).toNat = b.toNat := by simp only [BitVec.toNat_ofInt]; omega
    rw [e2]
    simp
  show IntKind.u64.wrap ((BitVec.ofInt 64 0 ||| BitVec.ofInt 64 b).toNat : Int) = _
  rw [h1, u64_wrap]
  omega
theorem Small_tot {l : List Int} (hl : OkL l) (hv : val l < 9223372036854775808) : Tot (fun fuel => integer_Small fuel (false, l)) (fun r => r = (val l, (0, 0))) := by
  unfold integer_Small
  refine Tot.bindq (icheck (l := [(false, l)]) (fun x hx => by simp at hx; subst hx; exact ⟨hl, fun _ => rfl⟩) (by simp)) fun r hr => ?_
  subst hr
  refine Tot.if_ rfl ?_
  have hlen : l.length ≤ 2 := by
    rcases Nat.lt_or_ge 2 l.length with h | h
    · have h1 := val_big hl.1 hl.2.1 (fun e => by subst e; simp at h)
      have h2 := pow_mono (show 2 ≤ l.length - 1 by omega)
      have : (4294967296 : Int) ^ 2 = 18446744073709551616 := by decide
      omega
    · exact h
  have hb := val_bound hl.1
  refine Tot.bindq (P := fun x => ∃ q, x = .inl (val l, q)) ?_ fun x ⟨q, hx⟩ => ?_
  · refine Tot.loop (fun st => ∃ i : Nat, st.2.1 = (i : Int) ∧ i ≤ l.length ∧ st.1 = val (l.take i)) (fun st => l.length - st.2.1.toNat) ⟨0, rfl, by omega, by simp [val]⟩ fun st ⟨i, e, hi, hs⟩ => ?_
    obtain ⟨n, k, z⟩ := st
    simp only at e hs
    subst e
    refine Tot.ite (fun h => ?_) (fun h => ?_)
    · have h : i < l.length := by have : ((i : Nat) : Int) < (l.length : Int) := of_decide_eq_true h; omega
      have hx := hl.1.get h
      have ht := val_take_succ h
      refine Tot.bind0 (idx_nat h) (Tot.if_ (decide_eq_false (show ¬ ((i : Nat) : Int) > 1 by omega)) ?_)
      have hw : IntKind.i64.wrap (32 * (i : Int)) = 32 * (i : Int) := i64_small (by omega) (by omega)
      rw [hw]
      refine Tot.bind0 (a := ()) (by unfold nn; rw [if_pos (by omega)]) (Tot.some_bind (Tot.ret ?_))
      have hw2 : IntKind.i64.wrap ((i : Int) + 1) = ((i + 1 : Nat) : Int) := by rw [i64_small (by omega) (by omega)]; omega
      rw [hw2]
      refine ⟨⟨i + 1, rfl, by omega, ?_⟩, by show l.length - (((i + 1 : Nat) : Int)).toNat < l.length - ((i : Nat) : Int).toNat; omega⟩
      rw [ht, hs, u64_small (by omega) (by omega)]
      rcases (by omega : i = 0 ∨ i = 1) with h0 | h0
      · subst h0
        have : shlI .u64 l[0] (32 * ((0 : Nat) : Int)) = l[0] := by
          unfold shlI
          show IntKind.u64.wrap (l[0] * 2 ^ (min (0 : Int).toNat 64)) = _
          rw [show min (0 : Int).toNat 64 = 0 from rfl, u64_wrap]
          simp
          omega
        rw [this]
        have h00 : val (l.take 0) = 0 := by simp [val]
        rw [h00]
        simp only [Int.pow_zero]
        rw [or_zero ⟨by omega, by omega⟩]
        omega
      · subst h0
        have hv2 : val (l.take 2) < 18446744073709551616 := by
          rw [val_take_all (by omega)]; omega
        have hb1 := val_bound (hl.1.take 1)
        rw [List.length_take, Nat.min_eq_left (by omega)] at hb1
        have : shlI .u64 l[1] (32 * ((1 : Nat) : Int)) = l[1] * 4294967296 := by
          unfold shlI
          show IntKind.u64.wrap (l[1] * 2 ^ (min (32 : Int).toNat 64)) = _
          rw [show min (32 : Int).toNat 64 = 32 from rfl, u64_wrap, show (2 : Int) ^ 32 = 4294967296 by decide]
          omega
        rw [this, or_shift ⟨hb1.1, by simpa using hb1.2⟩ hx]
        simp only [Int.pow_one]
        omega
    · have h : i = l.length := by have : ¬ ((i : Nat) : Int) < (l.length : Int) := of_decide_eq_false h; omega
      refine Tot.ret ⟨z, ?_⟩
      rw [hs, val_take_all (by omega)]
  · subst hx
    refine Tot.contl ?_
    have hw : IntKind.i64.wrap (val l) = val l := i64_wrap (by omega) (by omega)
    refine Tot.bindq (P := fun j => j = val l) (Tot.if_ rfl (Tot.ret hw)) fun j hj => ?_
    subst hj
    have : decide (val l < 0) = false := decide_eq_false (by omega)
    rw [this]
    exact Tot.if_ rfl (Tot.ret rfl)
theorem odd_of {c : Int} (h : (c.tmod 2 == 0) = false) (hU : U c) : c % 2 = 1 := by
  have h := beq_eq_false_iff_ne.1 h
  rw [Int.tmod_eq_emod_of_nonneg hU.1] at h
  omega

theorem small_tot {c s n : Int} (hc : c % 2 = 1) (hs : U s) (h0 : 1 ≤ n) (h1 : n < 9223372036854775808) : Tot (fun fuel => random_source_small fuel (s, c) n) (fun r => 0 ≤ r.1 ∧ r.1 < n ∧ U r.2.1 ∧ r.2.2 = c) := by
  unfold random_source_small
  refine Tot.bindq (Of_tot (n := n) (by omega) h1) fun o ⟨o1, o2⟩ => ?_
  have hneg : o.1 = false := by
    have hb := val_lt_big o1.1
    unfold ival at o2
    cases ho : o.1 with
    | false => rfl
    | true => rw [ho] at o2; simp at o2; omega
  have hv : val o.2 = n := by rw [← o2]; unfold ival; rw [hneg]; rfl
  rw [hneg]
  refine Tot.bindq (below_tot hc hs o1.1 (by omega)) fun r ⟨r1, r2, r3⟩ => ?_
  obtain ⟨k1, k2, k3⟩ := r3.ok
  have hU : U r.2.1 := by
    obtain ⟨size, m, _, _, h, _⟩ := r3
    rw [h]
    exact U_it hs _
  rw [r1]
  refine Tot.bindq (Small_tot k1 (by omega)) fun q hq => Tot.ret ?_
  subst hq
  exact ⟨k2, by show val r.1.2 < n; omega, hU, r2⟩

end Go.Gv.R
