import Derived.Test.YtbiopeiafkldiaaGreatDoorIS
set_option linter.all false
namespace Go.Gv.RI
open Go Go.Gv Go.Gv.D

/-! Own work: a number divided by one limb, and multiplied by one. -/
theorem bm_get {α : Type} (p : List α) (x : α) (q : List α) {m : Nat} (h : m = p.length) : idx (p ++ x :: q) (m : Int) = some x := by
  subst h
  rw [idx_nat (by simp)]
  simp
theorem bm_upd {α : Type} (p : List α) (x y : α) (q : List α) {m : Nat} (h : m = p.length) : upd (p ++ x :: q) (m : Int) y = some (p ++ y :: q) := by
  subst h
  unfold upd
  rw [if_pos ⟨by omega, by simp; omega⟩, Int.toNat_natCast]
  simp
theorem or_high {a b : Int} (ha : 0 ≤ a ∧ a < 4294967296) (hb : 0 ≤ b ∧ b < 4294967296) : bwOr .u64 (b * 4294967296) a = b * 4294967296 + a := by
  have h := or_shift ha hb
  unfold bwOr at h ⊢
  rw [BitVec.or_comm, h, Int.add_comm]
theorem div32_tot {r x d : Int} (hr : 0 ≤ r ∧ r < d) (hx : 0 ≤ x ∧ x < 4294967296) (hd : d < 4294967296) (fuel : Nat) : bits_Div32 fuel r x d = some ((r * 4294967296 + x) / d, (r * 4294967296 + x) % d) := by
  unfold bits_Div32
  have e0 : (d != 0) = true := bne_iff_ne.2 (by omega)
  have e1 : decide (d ≤ r) = false := decide_eq_false (by omega)
  rw [e0, e1]
  have w1 : IntKind.u64.wrap r = r := u64_small (by omega) (by omega)
  have w2 : IntKind.u64.wrap (r * 2 ^ 32) = r * 4294967296 := u64_small (by omega) (by omega)
  have w3 : IntKind.u64.wrap x = x := u64_small (by omega) (by omega)
  have w4 : IntKind.u64.wrap d = d := u64_small (by omega) (by omega)
  have hn : nz d = some () := by unfold nz; rw [if_neg (by omega)]
  have hn0 : 0 ≤ r * 4294967296 + x := by omega
  have hq : (r * 4294967296 + x) / d < 4294967296 := Int.ediv_lt_of_lt_mul (by omega) (by
    have : (r + 1) * 4294967296 ≤ d * 4294967296 := Int.mul_le_mul_of_nonneg_right (by omega) (by decide)
    omega)
  have hq0 : 0 ≤ (r * 4294967296 + x) / d := Int.ediv_nonneg hn0 (by omega)
  have hm0 : 0 ≤ (r * 4294967296 + x) % d := Int.emod_nonneg _ (by omega)
  have hm1 : (r * 4294967296 + x) % d < d := Int.emod_lt_of_pos _ (by omega)
  simp only [Bool.and_false, Bool.false_eq_true, if_false, Option.bind_some, w1, w2, w3, w4, hn, or_high hx (show 0 ≤ r ∧ r < 4294967296 by omega), Int.tdiv_eq_ediv_of_nonneg hn0, Int.tmod_eq_emod_of_nonneg hn0]
  rw [u64_small hq0 (by omega), u32_small hq0 hq, u32_small hm0 (by omega)]
theorem val_cons' (x : Int) (q : List Int) : val (x :: q) = x + 4294967296 * val q := by simp [val]
theorem short_tot {a : List Int} {d : Int} (ha : Dg a) (la : a.length ≤ 1000) (h1 : 0 < d) (h2 : d < 4294967296) :
    Tot (fun fuel => natural_short fuel a d) (fun r => Dg r.1 ∧ Nz r.1 ∧ r.1.length ≤ a.length ∧ val r.1 = val a / d ∧ r.2 = val a % d) := by
  unfold natural_short
  refine Tot.bind0 (a := List.replicate a.length 0) (by unfold mkC; rw [if_pos ⟨by omega, by omega, by omega⟩]; simp) ?_
  have hw : IntKind.i64.wrap (((a.length : Nat) : Int) - 1) = (a.length : Int) - 1 := i64_small (by omega) (by omega)
  rw [hw]
  refine Tot.some_bind ?_
  refine Tot.bindq (P := fun j => Dg j.1 ∧ j.1.length = a.length ∧ 0 ≤ j.2 ∧ j.2 < d ∧ val a = d * val j.1 + j.2) ?_ fun j ⟨j1, j2, j3, j4, j5⟩ => ?_
  · refine Tot.loop (fun st => ∃ (i : Nat) (q : List Int), st.2.2 = (i : Int) - 1 ∧ i ≤ a.length ∧ st.1 = List.replicate i 0 ++ q ∧ q.length = a.length - i ∧ Dg q ∧ 0 ≤ st.2.1 ∧ st.2.1 < d ∧ val (a.drop i) = d * val q + st.2.1) (fun st => (st.2.2 + 1).toNat)
      ⟨a.length, [], rfl, Nat.le_refl _, by simp, by simp, fun x hx => by simp at hx, Int.le_refl _, h1, by simp [val]⟩ fun st ⟨i, q, e1, hi, e2, hq, hdq, g1, g2, g3⟩ => ?_
    obtain ⟨out, r, k⟩ := st
    simp only at e1 e2 g1 g2 g3
    subst e1; subst e2
    refine Tot.ite (fun h => ?_) (fun h => ?_)
    · have h : 0 < i := by have : (i : Int) - 1 ≥ 0 := of_decide_eq_true h; omega
      obtain ⟨m, rfl⟩ : ∃ m, i = m + 1 := ⟨i - 1, by omega⟩
      have hm : m < a.length := by omega
      have hx := ha.get hm
      have ek : ((m + 1 : Nat) : Int) - 1 = (m : Int) := by omega
      simp only [ek]
      have er : List.replicate (m + 1) (0 : Int) ++ q = List.replicate m 0 ++ 0 :: q := by rw [List.replicate_succ', List.append_assoc]; rfl
      rw [er]
      refine Tot.bind0 (idx_nat hm) ?_
      refine Tot.bindq (Tot.of_all (Q := (· = ((r * 4294967296 + a[m]) / d, (r * 4294967296 + a[m]) % d))) 0 (fun k => div32_tot ⟨g1, g2⟩ hx h2 _) rfl) fun qq hqq => ?_
      subst hqq
      refine Tot.bind0 (bm_get _ _ _ (by simp)) ?_
      refine Tot.bind0 (bm_upd _ _ _ _ (by simp)) (Tot.ret ?_)
      have hw : IntKind.i64.wrap ((m : Int) - 1) = (m : Int) - 1 := i64_small (by omega) (by omega)
      simp only [hw]
      have hn0 : 0 ≤ r * 4294967296 + a[m] := by omega
      have hq1 : (r * 4294967296 + a[m]) / d < 4294967296 := Int.ediv_lt_of_lt_mul (by omega) (by
        have : (r + 1) * 4294967296 ≤ d * 4294967296 := Int.mul_le_mul_of_nonneg_right (by omega) (by decide)
        omega)
      have hq0 : 0 ≤ (r * 4294967296 + a[m]) / d := Int.ediv_nonneg hn0 (by omega)
      refine ⟨⟨m, (r * 4294967296 + a[m]) / d :: q, rfl, by omega, rfl, by simp [hq]; omega, fun x hx => ?_, Int.emod_nonneg _ (by omega), Int.emod_lt_of_pos _ h1, ?_⟩, by omega⟩
      · rcases List.mem_cons.1 hx with e | e
        · subst e; exact ⟨hq0, hq1⟩
        · exact hdq x e
      · rw [List.drop_eq_getElem_cons hm, val_cons', val_cons', g3]
        have := Int.mul_ediv_add_emod (r * 4294967296 + a[m]) d
        generalize (r * 4294967296 + a[m]) / d = u at *
        generalize (r * 4294967296 + a[m]) % d = v at *
        generalize a[m] = x at *
        have : d * (u + 4294967296 * val q) = d * u + 4294967296 * (d * val q) := by grind
        grind
    · have h : i = 0 := by have : ¬ (i : Int) - 1 ≥ 0 := of_decide_eq_false h; omega
      subst h
      refine Tot.ret ⟨?_, ?_, g1, g2, ?_⟩
      · simpa using hdq
      · simp [hq]
      · simpa using g3
  · refine Tot.bindq (ntrim_tot (by omega)) fun t ht => Tot.ret ⟨ht.dg j1, ht.nz, by have := ht.len; simp only; omega, ?_, ?_⟩
    · rw [ht.val, j5, Int.add_comm, Int.add_mul_ediv_left _ _ (Int.ne_of_gt h1), Int.ediv_eq_zero_of_lt j3 j4]; simp
    · rw [j5, Int.add_comm, Int.add_mul_emod_self_left, Int.emod_eq_of_lt j3 j4]
theorem mul1_tot {a : List Int} {y : Int} (ha : Dg a) (la : a.length ≤ 1000) (hy : 0 ≤ y ∧ y < 4294967296) :
    Tot (fun fuel => natural_mul fuel a [y]) (fun r => Dg r ∧ Nz r ∧ r.length ≤ a.length + 1 ∧ val r = val a * y) := by
  unfold natural_mul
  have hw : IntKind.i64.wrap (((a.length : Nat) : Int) + (([y].length : Nat) : Int)) = ((a.length + 1 : Nat) : Int) := by rw [i64_small (by simp; omega) (by simp; omega)]; simp
  rw [hw]
  refine Tot.bind0 (a := List.replicate (a.length + 1) 0) (by unfold mkC; rw [if_pos ⟨by omega, by omega, by omega⟩]; simp) ?_
  refine Tot.bindq (P := fun j => Dg j ∧ j.length = a.length + 1 ∧ val j = val a * y) ?_ fun j ⟨j1, j2, j3⟩ => ?_
  · refine Tot.loop (fun st => ∃ (i : Nat) (p : List Int) (c : Int), st.2 = (i : Int) ∧ i ≤ a.length ∧ st.1 = p ++ c :: List.replicate (a.length - i) 0 ∧ p.length = i ∧ Dg p ∧ (0 ≤ c ∧ c < 4294967296) ∧ val p + 4294967296 ^ i * c = val (a.take i) * y) (fun st => a.length - st.2.toNat)
      ⟨0, [], 0, rfl, by omega, by rw [List.replicate_succ]; rfl, rfl, fun x hx => by simp at hx, ⟨by decide, by decide⟩, by simp [val]⟩ fun st ⟨i, p, c, e1, hi, e2, hp, hdp, hc, g⟩ => ?_
    obtain ⟨out, k⟩ := st
    simp only at e1 e2
    subst e1; subst e2
    refine Tot.ite (fun h => ?_) (fun h => ?_)
    · have h : i < a.length := by have : (i : Int) < (a.length : Int) := of_decide_eq_true h; omega
      have hx := ha.get h
      refine Tot.bind0 (idx_nat h) ?_
      have er : List.replicate (a.length - i) (0 : Int) = 0 :: List.replicate (a.length - (i + 1)) 0 := by rw [← List.replicate_succ]; congr 1; omega
      rw [er]
      have hxy : 0 ≤ a[i] * y ∧ a[i] * y ≤ 18446744065119617025 := ⟨Int.mul_nonneg hx.1 hy.1, by
        have := Int.mul_le_mul (show a[i] ≤ 4294967295 by omega) (show y ≤ 4294967295 by omega) hy.1 (by decide)
        omega⟩
      refine Tot.bindq (P := fun j => j = (p ++ ((a[i] * y + c) % 4294967296) :: 0 :: List.replicate (a.length - (i + 1)) 0, (a[i] * y + c) / 4294967296)) ?_ fun j hj => ?_
      · refine Tot.loop (fun st => (st.2.2 = 0 ∧ st.2.1 = 0 ∧ st.1 = p ++ c :: 0 :: List.replicate (a.length - (i + 1)) 0) ∨ (st.2.2 = 1 ∧ st.1 = p ++ ((a[i] * y + c) % 4294967296) :: 0 :: List.replicate (a.length - (i + 1)) 0 ∧ st.2.1 = (a[i] * y + c) / 4294967296)) (fun st => (1 - st.2.2).toNat)
          (.inl ⟨rfl, rfl, rfl⟩) fun st hst => ?_
        obtain ⟨o, cy, k⟩ := st
        simp only at hst
        rcases hst with ⟨rfl, rfl, rfl⟩ | ⟨rfl, rfl, rfl⟩
        · refine Tot.it (decide_eq_true (by simp)) ?_
          have ez : IntKind.i64.wrap ((i : Int) + 0) = (i : Int) := by rw [i64_small (by omega) (by omega)]; omega
          simp only [ez]
          refine Tot.bind0 (a := y) (by rfl) (Tot.bind0 (bm_get _ _ _ hp.symm) ?_)
          have w1 : IntKind.u64.wrap a[i] = a[i] := u64_small (by omega) (by omega)
          have w2 : IntKind.u64.wrap y = y := u64_small (by omega) (by omega)
          have w3 : IntKind.u64.wrap c = c := u64_small (by omega) (by omega)
          have w4 : IntKind.u64.wrap (a[i] * y) = a[i] * y := u64_small hxy.1 (by omega)
          have w5 : IntKind.u64.wrap (a[i] * y + c) = a[i] * y + c := u64_small (by omega) (by omega)
          have w6 : IntKind.u64.wrap (0 + (a[i] * y + c)) = a[i] * y + c := by rw [Int.zero_add]; exact w5
          simp only [w1, w2, w3, w4, w5, w6]
          refine Tot.some_bind (Tot.bind0 (bm_get _ _ _ hp.symm) (Tot.bind0 (bm_upd _ _ _ _ hp.symm) (Tot.ret ?_)))
          have e1 : (a[i] * y + c).fdiv (2 ^ 32) = (a[i] * y + c) / 4294967296 := Int.fdiv_eq_ediv_of_nonneg _ (by decide)
          have e2 : IntKind.i64.wrap (0 + 1) = 1 := by rw [i64_small (by omega) (by omega)]; rfl
          rw [e1, e2, u32_wrap]
          exact ⟨.inr ⟨rfl, rfl, rfl⟩, by simp⟩
        · exact Tot.if_ (decide_eq_false (by simp)) (Tot.ret rfl)
      · subst hj
        have e0 : IntKind.i64.wrap ((i : Int) + (([y].length : Nat) : Int)) = ((i + 1 : Nat) : Int) := by rw [i64_small (by simp; omega) (by simp; omega)]; simp
        simp only [e0]
        have er2 : p ++ ((a[i] * y + c) % 4294967296) :: 0 :: List.replicate (a.length - (i + 1)) 0 = (p ++ [(a[i] * y + c) % 4294967296]) ++ 0 :: List.replicate (a.length - (i + 1)) 0 := by simp
        rw [er2]
        refine Tot.bind0 (bm_get _ _ _ (by simp [hp])) (Tot.bind0 (bm_upd _ _ _ _ (by simp [hp])) (Tot.ret ?_))
        have hq : 0 ≤ (a[i] * y + c) / 4294967296 ∧ (a[i] * y + c) / 4294967296 < 4294967296 := by omega
        have hw : IntKind.i64.wrap ((i : Int) + 1) = ((i + 1 : Nat) : Int) := by rw [i64_small (by omega) (by omega)]; omega
        rw [u32_small hq.1 hq.2, hw]
        refine ⟨⟨i + 1, p ++ [(a[i] * y + c) % 4294967296], (a[i] * y + c) / 4294967296, rfl, by omega, rfl, by simp [hp], hdp.append (Dg.one (by omega)), hq, ?_⟩, by simp only; omega⟩
        rw [val_snoc, hp, Int.pow_succ, val_take_succ h]
        have e3 := Int.mul_ediv_add_emod (a[i] * y + c) 4294967296
        generalize (a[i] * y + c) / 4294967296 = u at *
        generalize (a[i] * y + c) % 4294967296 = v at *
        generalize (4294967296 : Int) ^ i = P at *
        generalize a[i] = x at *
        have : P * v + P * 4294967296 * u = P * (x * y + c) := by rw [← e3]; grind
        grind
    · have h : i = a.length := by have : ¬ (i : Int) < (a.length : Int) := of_decide_eq_false h; omega
      subst h
      simp only [Nat.sub_self, List.replicate_zero]
      refine Tot.ret ⟨hdp.append (Dg.one hc), by simp [hp], ?_⟩
      rw [val_snoc, hp, g, val_take_all (Nat.le_refl _)]
  · exact Tot.bindq (ntrim_tot (by omega)) fun t ht => Tot.ret ⟨ht.dg j1, ht.nz, by have := ht.len; omega, by rw [ht.val, j3]⟩
end Go.Gv.RI
namespace Go.Gv.RI
open Go Go.Gv Go.Gv.D

/-! Own work: the digits of a number to the bases 2, 8 and 16, and the number with some digits. -/
def IsBase (B : Int) : Prop := B = 2 ∨ B = 8 ∨ B = 16
theorem IsBase.one {B : Int} (h : IsBase B) : 1 < B := by rcases h with h | h | h <;> subst h <;> decide
theorem IsBase.le {B : Int} (h : IsBase B) : B ≤ 16 := by rcases h with h | h | h <;> subst h <;> decide
theorem Tot.all {α : Type} {f : Nat → Option α} {a : α} (h : ∀ k, f k = some a) : Tot f (· = a) := Tot.of_all 0 (fun k => h _) rfl
set_option maxRecDepth 100000 in
theorem chunk_tot {B : Int} (h : IsBase B) : ∃ (P : Int) (n : Nat), Tot (fun fuel => natural_chunk fuel B) (· = (P, (n : Int))) ∧ P = B ^ n ∧ 1 ≤ n ∧ n ≤ 31 ∧ 1 < P ∧ P < 4294967296 := by
  rcases h with h | h | h <;> subst h
  · exact ⟨2147483648, 31, Tot.of_all 100 (fun k => by kernel_rfl) rfl, by decide, by decide, by decide, by decide, by decide⟩
  · exact ⟨1073741824, 10, Tot.of_all 100 (fun k => by kernel_rfl) rfl, by decide, by decide, by decide, by decide, by decide⟩
  · exact ⟨268435456, 7, Tot.of_all 100 (fun k => by kernel_rfl) rfl, by decide, by decide, by decide, by decide, by decide⟩
theorem big_two : Big = 2 ^ 4096 := by
  unfold Big
  rw [show (4294967296 : Int) = 2 ^ 32 by decide, ← Int.pow_mul]
theorem pow_le_left {a b : Int} (ha : 0 ≤ a) (h : a ≤ b) : ∀ n : Nat, a ^ n ≤ b ^ n
  | 0 => by simp
  | n + 1 => by
    rw [Int.pow_succ, Int.pow_succ]
    exact Int.mul_le_mul (pow_le_left ha h n) h ha (Int.pow_nonneg (by omega))
theorem len_lt {B : Int} (hB : 1 < B) {n : Nat} (h : B ^ n < Big) : n ≤ 4096 := by
  refine Nat.le_of_not_lt fun hn => ?_
  have h1 := vb_mono hB (Nat.le_of_lt hn)
  have h2 := pow_le_left (show (0 : Int) ≤ 2 by decide) (show (2 : Int) ≤ B by omega) 4096
  rw [← big_two] at h2
  omega
theorem okL_of {l : List Int} (hd : Dg l) (hn : Nz l) (hv : val l < Big) : OkL l := by
  refine ⟨hd, hn, Nat.le_of_not_lt fun h => ?_⟩
  have h1 := val_big hd hn (fun e => by subst e; simp at h)
  have h2 := pow_mono (show 128 ≤ l.length - 1 by omega)
  unfold Big at hv
  omega
theorem Digits_tot {a : List Int} {B : Int} (ha : OkL a) (hB : IsBase B) :
    Tot (fun fuel => natural_Digits fuel a B) (fun r => r.2 = (0, 0) ∧ ∃ l, r.1 = l.reverse ∧ Db B l ∧ vb B l = val a ∧ l.length ≤ 5000) := by
  obtain ⟨P, n, hc, hP, n1, n2, p1, p2⟩ := chunk_tot hB
  have hB1 := hB.one
  have hB2 := hB.le
  unfold natural_Digits
  refine Tot.bindq (Tot.all (fun k => nvalid ha.2.1 ha.l6 k)) fun r hr => ?_
  subst hr
  refine Tot.if_ (by rfl) (Tot.if_ (by simp; omega) (Tot.bindq hc fun r hr => ?_))
  subst hr
  have va := val_lt_big ha
  refine Tot.bindq (P := fun l => Db B l ∧ vb B l = val a ∧ l.length ≤ 5000) ?_ fun l ⟨h1, h2, h3⟩ => ?_
  · refine Tot.loop (fun st => Dg st.1 ∧ Nz st.1 ∧ st.1.length ≤ 128 ∧ Db B st.2 ∧ vb B st.2 + B ^ st.2.length * val st.1 = val a ∧ st.2.length ≤ 5000) (fun st => (val st.1).toNat)
      ⟨ha.1, ha.2.1, ha.2.2, Db.nil, by simp [vb], by simp⟩ fun st ⟨g1, g2, g3, g4, g5, g6⟩ => ?_
    obtain ⟨v, l⟩ := st
    simp only at g1 g2 g3 g4 g5 g6
    refine Tot.ite (fun h => ?_) (fun h => ?_)
    · have h : 0 < v.length := by have : ((v.length : Nat) : Int) > 0 := of_decide_eq_true h; omega
      have hv0 := (val_bound g1).1
      have hv1 : 1 ≤ val v := by
        rcases Int.lt_or_eq_of_le hv0 with q | q
        · omega
        · have := val_zero g1 g2 q.symm
          subst this
          simp at h
      have hl0 := (vb_bound hB1 g4).1
      have hpow := pow_pos' hB1 l.length
      have hl : l.length ≤ 4096 := len_lt hB1 (by
        have : B ^ l.length * 1 ≤ B ^ l.length * val v := Int.mul_le_mul_of_nonneg_left hv1 (by omega)
        omega)
      refine Tot.bindq (short_tot g1 (by omega) (show 0 < P by omega) p2) fun r ⟨s1, s2, s3, s4, s5⟩ => ?_
      obtain ⟨v', rest⟩ := r
      simp only at s1 s2 s3 s4 s5
      have hdm := Int.mul_ediv_add_emod (val v) P
      rw [← s4, ← s5] at hdm
      have hrest : 0 ≤ rest ∧ rest < P := by rw [s5]; exact ⟨Int.emod_nonneg _ (by omega), Int.emod_lt_of_pos _ (by omega)⟩
      have hv'0 := (val_bound s1).1
      refine Tot.bindq (P := fun j => Db B j ∧ j.length ≤ l.length + n ∧ vb B j + B ^ j.length * val v' = val a) ?_ fun j ⟨j1, j2, j3⟩ => ?_
      · refine Tot.loop (fun st => ∃ k : Nat, st.2.2 = (k : Int) ∧ k ≤ n ∧ 0 ≤ st.2.1 ∧ st.2.1 < B ^ (n - k) ∧ Db B st.1 ∧ st.1.length ≤ l.length + k ∧ vb B st.1 + B ^ st.1.length * (st.2.1 + B ^ (n - k) * val v') = val a) (fun st => n - st.2.2.toNat)
          ⟨0, rfl, by omega, hrest.1, by rw [Nat.sub_zero, ← hP]; exact hrest.2, g4, by simp, by rw [Nat.sub_zero, ← hP, ← g5, ← hdm]; grind⟩ fun st ⟨k, e, hk, k1, k2, k3, k4, k5⟩ => ?_
        obtain ⟨m, rs, kk⟩ := st
        simp only at e k1 k2 k3 k4 k5
        subst e
        refine Tot.ite (fun c => ?_) (fun c => ?_)
        · have c1 : k < n := by
            have := (Bool.and_eq_true_iff.1 c).1
            have : (k : Int) < (n : Int) := of_decide_eq_true this
            omega
          have hB0 : nz B = some () := by unfold nz; rw [if_neg (by omega)]
          have w1 : IntKind.u32.wrap B = B := u32_small (by omega) (by omega)
          have hrb : rs < 4294967296 := by
            have := vb_mono hB1 (show n - k ≤ n by omega)
            omega
          have w2 : IntKind.i64.wrap rs = rs := i64_small (by omega) (by omega)
          have w3 : IntKind.i64.wrap ((k : Int) + 1) = ((k + 1 : Nat) : Int) := by rw [i64_small (by omega) (by omega)]; omega
          have w4 : rs.tmod B = rs % B := Int.tmod_eq_emod_of_nonneg k1
          have w5 : rs.tdiv B = rs / B := Int.tdiv_eq_ediv_of_nonneg k1
          have q0 : 0 ≤ rs / B := Int.ediv_nonneg k1 (by omega)
          have q1 : rs / B ≤ rs := Int.ediv_le_self _ k1
          have w6 : IntKind.u32.wrap (rs / B) = rs / B := u32_small q0 (by omega)
          have m0 : 0 ≤ rs % B := Int.emod_nonneg _ (by omega)
          have m1 : rs % B < B := Int.emod_lt_of_pos _ (by omega)
          simp only [w1, w2, w3, w4, w5, w6]
          refine Tot.bind0 hB0 (Tot.bind0 (app_ok (by simp; omega)) (Tot.bind0 hB0 (Tot.some_bind (Tot.ret ?_))))
          have en : n - k = (n - (k + 1)) + 1 := by omega
          rw [en, Int.pow_succ] at k2 k5
          refine ⟨⟨k + 1, rfl, by omega, q0, Int.ediv_lt_of_lt_mul (by omega) k2, k3.append (Db.one ⟨m0, m1⟩), by simp; omega, ?_⟩, by simp only; omega⟩
          rw [vb_snoc, List.length_append, List.length_singleton, Int.pow_succ, ← k5]
          have e3 := Int.mul_ediv_add_emod rs B
          generalize rs / B = u at *
          generalize rs % B = z at *
          subst e3
          grind
        · refine Tot.ret ⟨k3, by omega, ?_⟩
          rcases Bool.and_eq_false_iff.1 c with c | c
          · have c : n ≤ k := by have : ¬ (k : Int) < (n : Int) := of_decide_eq_false c; omega
            have ek : n - k = 0 := by omega
            rw [ek, Int.pow_zero] at k2 k5
            have : rs = 0 := by omega
            subst this
            simpa using k5
          · obtain ⟨c1, c2⟩ := Bool.or_eq_false_iff.1 c
            have c1 : v'.length = 0 := by have : ¬ ((v'.length : Nat) : Int) > 0 := of_decide_eq_false c1; omega
            have c2 : rs = 0 := by have : ¬ rs > 0 := of_decide_eq_false c2; omega
            have : v' = [] := List.eq_nil_of_length_eq_zero c1
            subst this; subst c2
            simpa [val] using k5
      · refine Tot.ret ⟨⟨s1, s2, by simp only; omega, j1, j3, by simp only; omega⟩, ?_⟩
        have hlt : val v' < val v := by
          rw [s4]
          exact Int.ediv_lt_of_lt_mul (by omega) (by
            have : val v * 1 < val v * P := Int.mul_lt_mul_of_pos_left p1 (by omega)
            omega)
        simp only
        omega
    · have h : v = [] := by
        have : ¬ ((v.length : Nat) : Int) > 0 := of_decide_eq_false h
        exact List.eq_nil_of_length_eq_zero (by omega)
      subst h
      refine Tot.ret ⟨g4, ?_, g6⟩
      simpa [val] using g5
  · have hr : slices_Reverse_sint_int 0 l = some l.reverse := by unfold slices_Reverse_sint_int; rw [if_pos (by omega)]
    refine Tot.bindq (Tot.all (f := fun fuel => slices_Reverse_sint_int fuel l) (fun k => hr)) fun r hr => ?_
    subst hr
    exact Tot.ret ⟨rfl, l, rfl, h1, h2, h3⟩
theorem vb_cons' (b x : Int) (l : List Int) : vb b (x :: l) = x + b * vb b l := rfl
theorem From_tot {ds : List Int} {B : Int} (hd : Db B ds) (hv : vb B ds.reverse < Big) (hl : ds.length ≤ 100000) (hB : IsBase B) :
    Tot (fun fuel => natural_From fuel ds B) (fun r => r.2 = (0, 0) ∧ OkL r.1 ∧ val r.1 = vb B ds.reverse) := by
  have hB1 := hB.one
  have hB2 := hB.le
  have hle : ∀ i, vb B (ds.take i).reverse ≤ vb B ds.reverse := fun i => by
    have e : ds.reverse = (ds.drop i).reverse ++ (ds.take i).reverse := by rw [← List.reverse_append, List.take_append_drop]
    rw [e, vb_append]
    have h1 := (vb_bound hB1 (l := (ds.drop i).reverse) (fun x hx => hd x (List.mem_of_mem_drop (List.mem_reverse.1 hx)))).1
    have h2 := (vb_bound hB1 (l := (ds.take i).reverse) (fun x hx => hd x (List.mem_of_mem_take (List.mem_reverse.1 hx)))).1
    have h3 := pow_pos' hB1 (ds.drop i).reverse.length
    have : 1 * vb B (ds.take i).reverse ≤ B ^ (ds.drop i).reverse.length * vb B (ds.take i).reverse := Int.mul_le_mul_of_nonneg_right (by omega) h2
    omega
  unfold natural_From
  refine Tot.if_ (by simp; omega) ?_
  refine Tot.bindq (P := fun j => ∃ o, j = .inl (o, (0, 0)) ∧ Dg o ∧ Nz o ∧ val o = vb B ds.reverse) ?_ fun j ⟨o, hj, o1, o2, o3⟩ => ?_
  · refine Tot.loop (fun st => ∃ (i : Nat), st.2.1 = (i : Int) ∧ st.2.2 = (0, 0) ∧ i ≤ ds.length ∧ Dg st.1 ∧ Nz st.1 ∧ val st.1 = vb B (ds.take i).reverse) (fun st => ds.length - st.2.1.toNat)
      ⟨0, rfl, rfl, by omega, fun x hx => by simp at hx, .inl rfl, by simp [vb, val]⟩ fun st ⟨i, e1, e2, hi, g1, g2, g3⟩ => ?_
    obtain ⟨out, k, f⟩ := st
    simp only at e1 e2 g1 g2 g3
    subst e1; subst e2
    refine Tot.ite (fun h => ?_) (fun h => ?_)
    · have h : i < ds.length := by have : (i : Int) < (ds.length : Int) := of_decide_eq_true h; omega
      have hx := hd.get h
      have ho : OkL out := okL_of g1 g2 (by rw [g3]; exact Int.lt_of_le_of_lt (hle i) hv)
      refine Tot.bindq (P := fun j => ∃ o, j = .inl (o, (0, 0)) ∧ Dg o ∧ Nz o ∧ val o = vb B (ds.take (i + 1)).reverse) ?_ fun j ⟨o, hj, o1, o2, o3⟩ => ?_
      · refine Tot.bind0 (idx_nat h) (Tot.if_ (by simp; omega) (Tot.if_ (decide_eq_false (by have := ho.2.2; simp only; omega)) ?_))
        have w1 : IntKind.u32.wrap B = B := u32_small (by omega) (by omega)
        have w2 : IntKind.u32.wrap ds[i] = ds[i] := u32_small hx.1 (by omega)
        rw [w1, w2]
        refine Tot.bindq (mul1_tot g1 ho.l10 ⟨by omega, by omega⟩) fun r ⟨r1, r2, r3, r4⟩ => ?_
        refine Tot.bindq (ntrim_tot (l := [ds[i]]) (by simp)) fun t ht => ?_
        have td := ht.dg (Dg.one ⟨hx.1, by omega⟩)
        have tl := ht.len
        simp at tl
        refine Tot.bindq (add_tot r1 td (by have := ho.2.2; simp only at r3; omega) (by omega)) fun s ⟨s1, s2, s3, s4⟩ => Tot.ret ⟨s, rfl, s1, s2, ?_⟩
        rw [s3, r4, ht.val, g3, List.take_succ_eq_append_getElem h, List.reverse_append]
        show _ = vb B (ds[i] :: (ds.take i).reverse)
        rw [vb_cons']
        simp [val]
        grind
      · subst hj
        have w3 : IntKind.i64.wrap ((i : Int) + 1) = ((i + 1 : Nat) : Int) := by rw [i64_small (by omega) (by omega)]; omega
        refine Tot.contl (Tot.ret ?_)
        rw [w3]
        exact ⟨⟨i + 1, rfl, rfl, by omega, o1, o2, o3⟩, by simp only; omega⟩
    · have h : i = ds.length := by have : ¬ (i : Int) < (ds.length : Int) := of_decide_eq_false h; omega
      subst h
      exact Tot.ret ⟨out, rfl, g1, g2, by rw [g3, List.take_length]⟩
  · subst hj
    have ho : OkL o := okL_of o1 o2 (by rw [o3]; exact hv)
    refine Tot.contl ?_
    unfold natural_fit
    refine Tot.bindq (P := (· = (o, (0, 0)))) ?_ fun r hr => by subst hr; exact Tot.ret ⟨rfl, ho, o3⟩
    refine Tot.bindq (ntrim_tot (l := o) (by have := ho.2.2; omega)) fun t ht => ?_
    have et : t = o := norm_inj (ht.dg o1) o1 ht.nz o2 ht.val
    subst et
    exact Tot.if_ (decide_eq_false (by have := ho.2.2; omega)) (Tot.ret rfl)
end Go.Gv.RI

