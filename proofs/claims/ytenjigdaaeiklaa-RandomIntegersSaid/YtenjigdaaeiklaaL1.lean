import Derived.Test.YtenjigdaaeiklaaGt
import Derived.Test.YtenjigdaaeiklaaD
set_option linter.all false
namespace Go.Gv.R
open Go Go.Gv Go.Gv.D

/-! ### mixing -/
def mixI (x : Int) : Int :=
  let y := IntKind.u64.wrap (bwXor .u64 x (x.fdiv (2 ^ 30)) * 13787848793156543929)
  let z := IntKind.u64.wrap (bwXor .u64 y (y.fdiv (2 ^ 27)) * 10723151780598845931)
  bwXor .u64 z (z.fdiv (2 ^ 31))

def U (x : Int) : Prop := 0 ≤ x ∧ x < 18446744073709551616
theorem U_wrap (x : Int) : U (IntKind.u64.wrap x) := by
  rw [u64_wrap]; unfold U; omega
theorem U_xor (a b : Int) : U (bwXor .u64 a b) := U_wrap _
theorem wrap_U {x : Int} (h : U x) : IntKind.u64.wrap x = x := by
  rw [u64_wrap]; unfold U at h; omega

theorem mix_eq (fuel : Nat) (x : Int) : random_mix fuel x = some (mixI x) := rfl

theorem half_eq {x : Int} (h : U x) (k : Nat) : IntKind.u64.wrap (x.tdiv (2 ^ k)) = x.fdiv (2 ^ k) := by
  have hp : (0 : Int) < 2 ^ k := Int.pow_pos (by decide)
  rw [Int.tdiv_eq_ediv_of_nonneg h.1, Int.fdiv_eq_ediv_of_nonneg _ (Int.le_of_lt hp)]
  apply wrap_U
  exact ⟨Int.ediv_nonneg h.1 (Int.le_of_lt hp), Int.lt_of_le_of_lt (Int.ediv_le_self _ h.1) h.2⟩

theorem mixed_eq (fuel : Nat) {x : Int} (h : U x) : ref4_Mixed fuel x = some (mixI x) := by
  have e1 := half_eq h 30
  have e2 := fun y : Int => half_eq (U_wrap y) 27
  have e3 := fun y : Int => half_eq (U_wrap y) 31
  have w := fun a b : Int => wrap_U (U_xor a b)
  simp only [ref4_Mixed, mixI, Option.bind_some, show (1073741824 : Int) = 2 ^ 30 by decide, show (134217728 : Int) = 2 ^ 27 by decide, show (2147483648 : Int) = 2 ^ 31 by decide, e1, e2, e3]
theorem mixed_wrap (fuel : Nat) (x : Int) : ref4_Mixed fuel (IntKind.u64.wrap x) = random_mix fuel (IntKind.u64.wrap x) := mixed_eq fuel (U_wrap x)

/-! ### steps -/
def stp (c s : Int) : Int := IntKind.u64.wrap (IntKind.u64.wrap (s * 6364136223846793005) + c)
def it (c s : Int) : Nat → Int
  | 0 => s
  | k + 1 => stp c (it c s k)
theorem U_it {c s : Int} (h : U s) : ∀ k, U (it c s k)
  | 0 => h
  | _ + 1 => U_wrap _
theorem it_add (c s : Int) (n : Nat) : ∀ m, it c (it c s n) m = it c s (n + m)
  | 0 => rfl
  | m + 1 => by show stp c _ = stp c _; rw [it_add c s n m]; rfl
theorem it_shift (c s : Int) : ∀ m, it c (stp c s) m = it c s (m + 1) := fun m => by
  have := it_add c s 1 m
  rw [Nat.add_comm] at this
  exact this

theorem draw_eq (fuel : Nat) (s c : Int) : ref4_Random_Draw fuel (s, c) = some (mixI (stp c s), (stp c s, c)) := by
  simp only [ref4_Random_Draw, mixed_wrap, mix_eq, Option.bind_some, stp]
theorem next_eq (fuel : Nat) (s c : Int) : random_source_next fuel (s, c) = some (mixI (stp c s), (stp c s, c)) := by
  simp only [random_source_next, mix_eq, Option.bind_some, stp]

theorem open_odd (fuel : Nat) (s c : Int) (h : (c.tmod 2 == 0) = false) : random_open fuel (s, c) = some (some (s, c), (0, 0)) := by
  simp only [random_open, h]
  rfl
theorem open_even (fuel : Nat) (s c : Int) (h : (c.tmod 2 == 0) = true) : random_open fuel (s, c) = some (none, (6, -1)) := by
  simp only [random_open, h]
  rfl
theorem Next_odd (fuel : Nat) (s c : Int) (h : (c.tmod 2 == 0) = false) : random_Next fuel (s, c) = some (mixI (stp c s), (stp c s, c), (0, 0)) := by
  simp only [random_Next, open_odd fuel s c h, Option.bind_some, optc, next_eq]
  rfl
theorem Next_even (fuel : Nat) (s c : Int) (h : (c.tmod 2 == 0) = true) : random_Next fuel (s, c) = some (0, (0, 0), (6, -1)) := by
  simp only [random_Next, open_even fuel s c h, Option.bind_some, optc]
  rfl
theorem Skip_even (fuel : Nat) (s c n : Int) (h : (c.tmod 2 == 0) = true) : random_Skip fuel (s, c) n = some ((0, 0), (6, -1)) := by
  simp only [random_Skip, open_even fuel s c h, Option.bind_some, optc]
  rfl

/-! ### skipping: affine maps modulo 2^64 -/
def bv (x : Int) : BitVec 64 := BitVec.ofInt 64 x
theorem bv_wrap (x : Int) : bv (IntKind.u64.wrap x) = bv x := by
  rw [u64_wrap]
  apply BitVec.eq_of_toInt_eq
  simp only [bv, BitVec.toInt_ofInt]
  exact Int.emod_bmod x 18446744073709551616
theorem bv_add (x y : Int) : bv (x + y) = bv x + bv y := BitVec.ofInt_add ..
theorem bv_mul (x y : Int) : bv (x * y) = bv x * bv y := BitVec.ofInt_mul ..
theorem bv_inj {x y : Int} (hx : U x) (hy : U y) (h : bv x = bv y) : x = y := by
  have := congrArg BitVec.toNat h
  simp only [bv, BitVec.toNat_ofInt] at this
  unfold U at hx hy
  omega

/-- n times x ↦ p x + q -/
def aff (p q : BitVec 64) : Nat → BitVec 64 → BitVec 64
  | 0, x => x
  | k + 1, x => p * aff p q k x + q
theorem aff_two (p q x : BitVec 64) : ∀ k, aff (p * p) (q * p + q) k x = aff p q (2 * k) x
  | 0 => rfl
  | k + 1 => by
    show (p * p) * aff (p * p) (q * p + q) k x + (q * p + q) = p * (p * aff p q (2 * k) x + q) + q
    rw [aff_two p q x k]
    grind
theorem aff_comm (p q x : BitVec 64) : ∀ k, aff p q k (p * x + q) = p * aff p q k x + q
  | 0 => rfl
  | k + 1 => by
    show p * aff p q k (p * x + q) + q = p * (p * aff p q k x + q) + q
    rw [aff_comm p q x k]
theorem bv_it (c s : Int) : ∀ k, bv (it c s k) = aff (bv 6364136223846793005) (bv c) k (bv s)
  | 0 => rfl
  | k + 1 => by
    show bv (stp c _) = _ * _ + _
    rw [stp, bv_wrap, bv_add, bv_wrap, bv_mul, bv_it c s k]
    grind

theorem and_one (x : Int) (h : U x) : (bwAnd .u64 x 1 == 1) = decide (x.toNat % 2 = 1) := by
  unfold U at h
  have e : bwAnd .u64 x 1 = ((x.toNat % 2 : Nat) : Int) := by
    unfold bwAnd
    rw [u64_wrap]
    have : (BitVec.ofInt 64 x &&& BitVec.ofInt 64 1).toNat = x.toNat % 2 := by
      rw [BitVec.toNat_and]
      have h1 : (BitVec.ofInt 64 1).toNat = 1 := by decide
      have h2 : (BitVec.ofInt 64 x).toNat = x.toNat := by
        simp only [BitVec.toNat_ofInt]
        omega
      rw [h1, h2, Nat.and_one_is_mod]
    show ((BitVec.ofInt 64 x &&& BitVec.ofInt 64 1).toNat : Int) % _ = _
    rw [this]
    omega
  rw [e]
  rcases Nat.mod_two_eq_zero_or_one x.toNat with h | h <;> rw [h] <;> decide

theorem Skip_odd {s c n : Int} (h : (c.tmod 2 == 0) = false) (hn : U n) : Tot (fun fuel => random_Skip fuel (s, c) n) (fun r => r = ((IntKind.u64.wrap (it c s n.toNat), c), (0, 0))) := by
  unfold random_Skip
  refine Tot.bind0 (a := (some (s, c), (0, 0))) (open_odd 0 s c h) ?_
  refine Tot.opt (fun e => by cases e) fun x e => ?_
  cases e
  refine Tot.if_ rfl ?_
  refine Tot.bindq (P := fun r => bv (IntKind.u64.wrap (IntKind.u64.wrap (s * r.1) + r.2)) = bv (it c s n.toNat)) ?_ fun r hr => ?_
  · refine Tot.loop (fun st => U st.1 ∧ ∀ x : BitVec 64, aff (bv st.2.2.2.1) (bv st.2.2.2.2) st.1.toNat (bv st.2.1 * x + bv st.2.2.1) = aff (bv 6364136223846793005) (bv c) n.toNat x) (fun st => st.1.toNat)
      ⟨hn, fun x => ?_⟩ fun st ⟨hU, hI⟩ => ?_
    · show aff _ _ _ (bv 1 * x + bv 0) = _
      have : bv 1 * x + bv 0 = x := by simp [bv]
      rw [this]
    refine Tot.ite (fun hc => ?_) (fun hc => ?_)
    · have hpos : 0 < st.1 := of_decide_eq_true hc
      have hh : (st.1.fdiv (2 ^ 1)).toNat = st.1.toNat / 2 := by
        rw [Int.fdiv_eq_ediv_of_nonneg _ (by decide)]
        omega
      have hU' : U (st.1.fdiv (2 ^ 1)) := by
        rw [Int.fdiv_eq_ediv_of_nonneg _ (by decide)]
        unfold U at *
        omega
      refine Tot.bindq (P := fun j => ∀ x : BitVec 64, aff (bv st.2.2.2.1 * bv st.2.2.2.1) (bv st.2.2.2.2 * bv st.2.2.2.1 + bv st.2.2.2.2) (st.1.toNat / 2) (bv j.1 * x + bv j.2) = aff (bv 6364136223846793005) (bv c) n.toNat x) ?_ fun j hj => ?_
      · rw [and_one _ hU]
        refine Tot.ite (fun ho => ?_) (fun ho => ?_)
        · have ho : st.1.toNat % 2 = 1 := of_decide_eq_true ho
          refine Tot.some_bind (Tot.some_bind (Tot.ret fun x => ?_))
          rw [← hI x]
          simp only [bv_wrap, bv_add, bv_mul]
          rw [aff_two, show bv st.2.1 * bv st.2.2.2.1 * x + (bv st.2.2.1 * bv st.2.2.2.1 + bv st.2.2.2.2) = bv st.2.2.2.1 * (bv st.2.1 * x + bv st.2.2.1) + bv st.2.2.2.2 by grind, aff_comm]
          conv => rhs; rw [show st.1.toNat = 2 * (st.1.toNat / 2) + 1 by omega]
          rfl
        · have ho : ¬ st.1.toNat % 2 = 1 := of_decide_eq_false ho
          refine Tot.ret fun x => ?_
          rw [← hI x, aff_two, show 2 * (st.1.toNat / 2) = st.1.toNat by omega]
      · refine Tot.some_bind (Tot.some_bind (Tot.ret ⟨⟨hU', fun x => ?_⟩, ?_⟩))
        · show aff (bv (IntKind.u64.wrap (st.2.2.2.1 * st.2.2.2.1))) (bv (IntKind.u64.wrap (IntKind.u64.wrap (st.2.2.2.2 * st.2.2.2.1) + st.2.2.2.2))) (st.1.fdiv (2 ^ 1)).toNat (bv j.1 * x + bv j.2) = _
          simp only [bv_wrap, bv_add, bv_mul]
          rw [hh]
          exact hj x
        · show (st.1.fdiv (2 ^ 1)).toNat < st.1.toNat
          rw [hh]
          omega
    · refine Tot.ret ?_
      show bv _ = _
      have hz : st.1.toNat = 0 := by
        have : ¬ 0 < st.1 := of_decide_eq_false hc
        omega
      have := hI (bv s)
      rw [hz] at this
      rw [bv_it, ← this, bv_wrap, bv_add, bv_wrap, bv_mul]
      show _ = bv st.2.1 * bv s + bv st.2.2.1
      grind
  · refine Tot.ret ?_
    have e : IntKind.u64.wrap (IntKind.u64.wrap (s * r.1) + r.2) = IntKind.u64.wrap (it c s n.toNat) := bv_inj (U_wrap _) (U_wrap _) (by rw [hr, bv_wrap])
    show ((IntKind.u64.wrap (IntKind.u64.wrap (s * r.1) + r.2), c), (0, 0)) = _
    rw [e]

/-! ### seeds -/
theorem valid_eq (fuel : Nat) (a : Bool × List Int) : integer_Valid fuel a = ref3_IntOk fuel a := rfl
theorem seed_eq (fuel : Nat) (a : Bool × List Int) : random_Seed fuel a = (ref3_IntOk fuel a).bind fun r => if (!r) = true then some ((0, 0), (6, -1)) else (ref4_Seeded fuel a).bind fun r => some (r, (0, 0)) := by
  obtain ⟨b, l⟩ := a
  simp only [random_Seed, ref4_Seeded, valid_eq, mixed_wrap, Option.bind_assoc, Option.bind_some, random_at]

def okI (a : Bool × List Int) : Bool := decide (a.2.length ≤ 128) && (if a.2.length = 0 then !a.1 else a.2.getLast? != some 0)
theorem IntOk_eq (fuel : Nat) (a : Bool × List Int) : ref3_IntOk fuel a = some (okI a) := by
  obtain ⟨b, l⟩ := a
  unfold ref3_IntOk okI
  by_cases h : l.length ≤ 128
  · have h1 : decide ((l.length : Int) ≤ 128) = true := decide_eq_true (by omega)
    simp only [h1, h, decide_true, Bool.true_and, if_true]
    have hi : 0 < l.length → idx l (IntKind.i64.wrap ((l.length : Int) - 1)) = l.getLast? := fun hp => by
      rw [i64_wrap (by omega) (by omega), List.getLast?_eq_getElem?]
      unfold idx
      rw [if_pos (by omega), show ((l.length : Int) - 1).toNat = l.length - 1 by omega]
    by_cases h0 : l.length = 0
    · have h2 : ((l.length : Int) == 0) = true := by rw [h0]; rfl
      simp only [h0, if_true]
      cases b <;> rfl
    · have h2 : ((l.length : Int) == 0) = false := beq_eq_false_iff_ne.2 (by omega)
      have h3 : decide ((l.length : Int) > 0) = true := decide_eq_true (by omega)
      simp only [h2, h3, if_true, hi (by omega), if_neg h0]
      cases hl : l.getLast? with
      | none => rw [List.getLast?_eq_none_iff] at hl; subst hl; exact absurd rfl h0
      | some x => simp; rfl
  · have h1 : decide ((l.length : Int) ≤ 128) = false := decide_eq_false (by omega)
    simp only [h1]
    simp [h]
theorem okI_len {a : Bool × List Int} (h : okI a = true) : a.2.length ≤ 128 := by
  unfold okI at h
  rw [Bool.and_eq_true] at h
  exact of_decide_eq_true h.1

theorem Seeded_tot {a : Bool × List Int} (h : okI a = true) : Tot (fun n => ref4_Seeded n a) (fun r => U r.1 ∧ r.2 = 1442695040888963407) := by
  have hl := okI_len h
  unfold ref4_Seeded
  refine Tot.some_bind (Tot.bindq (P := fun j => U j) ?_ fun j hj => ?_)
  · exact Tot.ite (fun _ => Tot.ret (U_xor _ _)) (fun _ => Tot.ret (U_wrap _))
  refine Tot.bindq (P := fun j => U j) ?_ fun j hj => Tot.ret ⟨hj, rfl⟩
  refine Tot.loop (fun st => U st.1 ∧ (0 : Int) ≤ st.2 ∧ st.2 ≤ (a.2.length : Int)) (fun st : Int × Int => a.2.length - st.2.toNat) ⟨hj, Int.le_refl 0, by simp⟩ fun st ⟨hu, h0, h1⟩ => ?_
  refine Tot.ite (fun hc => ?_) (fun hc => Tot.ret hu)
  have hc : st.2 < a.2.length := of_decide_eq_true hc
  refine Tot.bind0 (idx_ok h0 hc) (Tot.bind0 (mixed_eq 0 (U_wrap _)) (Tot.ret ?_))
  have hw : IntKind.i64.wrap (st.2 + 1) = st.2 + 1 := i64_wrap (by omega) (by omega)
  show (U _ ∧ 0 ≤ IntKind.i64.wrap (st.2 + 1) ∧ IntKind.i64.wrap (st.2 + 1) ≤ _) ∧ a.2.length - (IntKind.i64.wrap (st.2 + 1)).toNat < a.2.length - st.2.toNat
  rw [hw]
  refine ⟨⟨U_xor _ _, by omega, by omega⟩, by omega⟩

/-- n draws, one behind the other -/
theorem draws_tot {c s n : Int} (hn : U n) : Tot (fun fuel => loopN (fun (s725 : (Int × ((Int × Int)))) => (if (decide (s725.1 > 0)) then (Option.bind (ref4_Random_Draw fuel (s725.2.1, s725.2.2)) fun r734 => (some (.inl ((IntKind.u64.wrap (s725.1 - 1)), (r734.2.1, r734.2.2))))) else (some (.inr ((s725.2.1, s725.2.2)))))) fuel (n, (s, c))) (fun r => r = (it c s n.toNat, c)) := by
  refine Tot.loop (fun st => U st.1 ∧ st.2.2 = c ∧ it c st.2.1 st.1.toNat = it c s n.toNat) (fun st => st.1.toNat) ⟨hn, rfl, rfl⟩ fun st ⟨hU, hc, hI⟩ => ?_
  refine Tot.ite (fun h => ?_) (fun h => ?_)
  · have hpos : 0 < st.1 := of_decide_eq_true h
    refine Tot.bind0 (draw_eq 0 st.2.1 st.2.2) (Tot.ret ?_)
    have hw : IntKind.u64.wrap (st.1 - 1) = st.1 - 1 := wrap_U (by unfold U at *; omega)
    show (U (IntKind.u64.wrap (st.1 - 1)) ∧ st.2.2 = c ∧ it c (stp st.2.2 st.2.1) (IntKind.u64.wrap (st.1 - 1)).toNat = _) ∧ (IntKind.u64.wrap (st.1 - 1)).toNat < st.1.toNat
    rw [hw, hc, it_shift, show (st.1 - 1).toNat + 1 = st.1.toNat by omega]
    exact ⟨⟨by unfold U at *; omega, rfl, hI⟩, by omega⟩
  · refine Tot.ret ?_
    have hz : st.1.toNat = 0 := by
      have : ¬ 0 < st.1 := of_decide_eq_false h
      omega
    show (st.2.1, st.2.2) = _
    rw [hz] at hI
    rw [hc, ← hI]
    rfl
end Go.Gv.R
