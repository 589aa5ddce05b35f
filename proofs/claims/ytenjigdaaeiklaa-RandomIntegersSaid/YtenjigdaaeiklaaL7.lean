import Derived.Test.YtenjigdaaeiklaaL6
set_option linter.all false
namespace Go.Gv.R
open Go Go.Gv Go.Gv.D

/-! ### the number of bits -/
/-- r bits are needed for x -/
def Len (x : Int) (r : Int) : Prop := 0 ≤ r ∧ x < 2 ^ r.toNat ∧ (0 < r → 2 ^ (r.toNat - 1) ≤ x)

def len8 : List UInt8 := [0, 1, 2, 2, 3, 3, 3, 3, 4, 4, 4, 4, 4, 4, 4, 4, 5, 5, 5, 5, 5, 5, 5, 5, 5, 5, 5, 5, 5, 5, 5, 5, 6, 6, 6, 6, 6, 6, 6, 6, 6, 6, 6, 6, 6, 6, 6, 6, 6, 6, 6, 6, 6, 6, 6, 6, 6, 6, 6, 6, 6, 6, 6, 6, 7, 7, 7, 7, 7, 7, 7, 7, 7, 7, 7, 7, 7, 7, 7, 7, 7, 7, 7, 7, 7, 7, 7, 7, 7, 7, 7, 7, 7, 7, 7, 7, 7, 7, 7, 7, 7, 7, 7, 7, 7, 7, 7, 7, 7, 7, 7, 7, 7, 7, 7, 7, 7, 7, 7, 7, 7, 7, 7, 7, 7, 7, 7, 7, 8, 8, 8, 8, 8, 8, 8, 8, 8, 8, 8, 8, 8, 8, 8, 8, 8, 8, 8, 8, 8, 8, 8, 8, 8, 8, 8, 8, 8, 8, 8, 8, 8, 8, 8, 8, 8, 8, 8, 8, 8, 8, 8, 8, 8, 8, 8, 8, 8, 8, 8, 8, 8, 8, 8, 8, 8, 8, 8, 8, 8, 8, 8, 8, 8, 8, 8, 8, 8, 8, 8, 8, 8, 8, 8, 8, 8, 8, 8, 8, 8, 8, 8, 8, 8, 8, 8, 8, 8, 8, 8, 8, 8, 8, 8, 8, 8, 8, 8, 8, 8, 8, 8, 8, 8, 8, 8, 8, 8, 8, 8, 8, 8, 8, 8, 8, 8, 8, 8, 8, 8, 8, 8, 8, 8, 8, 8, 8]
theorem len8_all : ((List.range 256).all fun x => match len8[x]? with | some r => decide ((x : Int) < 2 ^ r.toNat) && (decide (r.toNat = 0) || decide ((2 : Int) ^ (r.toNat - 1) ≤ (x : Int))) && decide (r.toNat ≤ 8) | none => false) = true := by kernel_rfl
theorem len8_at {x : Int} (h0 : 0 ≤ x) (h1 : x < 256) : ∃ r : Int, sidx (strOf len8) x = some r ∧ Len x r ∧ r ≤ 8 := by
  have h := List.all_eq_true.1 len8_all x.toNat (List.mem_range.2 (by omega))
  unfold sidx
  rw [if_pos h0, show (strOf len8).data.toList = len8 from rfl]
  cases hr : len8[x.toNat]? with
  | none => rw [hr] at h; cases h
  | some r =>
    rw [hr] at h
    simp only [Bool.and_eq_true, Bool.or_eq_true, decide_eq_true_eq, show ((x.toNat : Nat) : Int) = x by omega] at h
    obtain ⟨⟨h2, h3⟩, h4⟩ := h
    refine ⟨(r.toNat : Int), rfl, ⟨by omega, by simpa using h2, fun hp => ?_⟩, by omega⟩
    rcases h3 with h3 | h3
    · omega
    · simpa using h3
theorem Len.shift {x r : Int} {k : Nat} (h : Len (x / 2 ^ k) r) (hr : 0 < r) : Len x (r + k) := by
  obtain ⟨h1, h2, h3⟩ := h
  have hp : (0 : Int) < 2 ^ k := Int.pow_pos (by decide)
  refine ⟨by omega, ?_, fun _ => ?_⟩
  · rw [show (r + (k : Int)).toNat = r.toNat + k by omega, Int.pow_add]
    exact Int.lt_mul_of_ediv_lt hp h2
  · rw [show (r + (k : Int)).toNat - 1 = (r.toNat - 1) + k by omega, Int.pow_add]
    exact Int.mul_le_of_le_ediv hp (h3 hr)
theorem Len.pos {x r : Int} (h : Len x r) (hx : 0 < x) : 0 < r := by
  rcases Int.lt_or_eq_of_le h.1 with h1 | h1
  · exact h1
  · have := h.2.1
    rw [← h1] at this
    simp at this
    omega

theorem len32_tot {x : Int} (h0 : 0 ≤ x) (h1 : x < 4294967296) : Tot (fun fuel => bits_Len32 fuel x) (fun r => Len x r ∧ r ≤ 32) := by
  unfold bits_Len32
  refine Tot.bindq (P := fun j => ∃ k : Nat, j.2 = (k : Int) ∧ (k = 0 ∨ k = 16) ∧ j.1 = x / 2 ^ k ∧ j.1 < 65536 ∧ (k = 0 ∨ 0 < j.1)) ?_ fun j ⟨k, e1, hk, e2, h3, h4⟩ => ?_
  · refine Tot.ite (fun h => Tot.ret ⟨16, rfl, .inr rfl, Int.fdiv_eq_ediv_of_nonneg _ (by decide), ?_, .inr ?_⟩) (fun h => Tot.ret ⟨0, rfl, .inl rfl, by simp, ?_, .inl rfl⟩)
    · show x.fdiv (2 ^ 16) < 65536
      rw [Int.fdiv_eq_ediv_of_nonneg _ (by decide)]; omega
    · have h : x ≥ 65536 := of_decide_eq_true h
      show 0 < x.fdiv (2 ^ 16)
      rw [Int.fdiv_eq_ediv_of_nonneg _ (by decide)]; omega
    · have h : ¬ x ≥ 65536 := of_decide_eq_false h
      show x < 65536
      omega
  obtain ⟨y, z⟩ := j
  simp only at e1 e2 h3 h4
  have hy : 0 ≤ y := by rw [e2]; exact Int.ediv_nonneg h0 (Int.le_of_lt (Int.pow_pos (by decide)))
  subst e1
  refine Tot.bindq (P := fun j => ∃ k' : Nat, j.2 = ((k + k' : Nat) : Int) ∧ k + k' ≤ 24 ∧ j.1 = x / 2 ^ (k + k') ∧ 0 ≤ j.1 ∧ j.1 < 256 ∧ (k + k' = 0 ∨ 0 < j.1)) ?_ fun j ⟨k', e3, hk', e4, h5, h6, h7⟩ => ?_
  · have e5 : ∀ k', y / 2 ^ k' = x / 2 ^ (k + k') := fun k' => by rw [e2, Int.pow_add, Int.ediv_ediv_of_nonneg (Int.le_of_lt (Int.pow_pos (by decide)))]
    refine Tot.ite (fun h => ?_) (fun h => ?_)
    · have h : y ≥ 256 := of_decide_eq_true h
      have ey : y.fdiv (2 ^ 8) = y / 2 ^ 8 := Int.fdiv_eq_ediv_of_nonneg _ (by decide)
      refine Tot.ret ⟨8, ?_, by omega, ?_, ?_, ?_, .inr ?_⟩
      · show IntKind.i64.wrap ((k : Int) + 8) = _
        rw [i64_small (by omega) (by omega)]; omega
      · show y.fdiv (2 ^ 8) = _
        rw [ey, e5]
      · show 0 ≤ y.fdiv (2 ^ 8)
        rw [ey]; omega
      · show y.fdiv (2 ^ 8) < 256
        rw [ey]; omega
      · show 0 < y.fdiv (2 ^ 8)
        rw [ey]; omega
    · have h : ¬ y ≥ 256 := of_decide_eq_false h
      refine Tot.ret ⟨0, rfl, by omega, ?_, hy, by show y < 256; omega, ?_⟩
      · show y = _
        rw [← e5]; simp
      · rcases h4 with h4 | h4
        · exact .inl h4
        · exact .inr h4
  obtain ⟨u, v⟩ := j
  simp only at e3 e4 h5 h6 h7
  subst e3
  obtain ⟨r, g1, g2, g3⟩ := len8_at h5 h6
  have hw : IntKind.u8.wrap u = u := by rw [u8_wrap]; omega
  refine Tot.bind0 (a := r) (by show sidx (strOf len8) (IntKind.u8.wrap u) = _; rw [hw]; exact g1) (Tot.some_bind (Tot.ret ?_))
  have g4 := g2.1
  rw [i64_small (x := r) (by omega) (by omega), i64_small (by omega) (by omega)]
  rw [e4] at g2
  by_cases hr : 0 < r
  · have := g2.shift hr
    rw [show ((k + k' : Nat) : Int) + r = r + ((k + k' : Nat) : Int) by omega]
    exact ⟨this, by omega⟩
  · have hr0 : r = 0 := by omega
    have hz : k + k' = 0 := by
      rcases h7 with h7 | h7
      · exact h7
      · rw [e4] at h7
        exact absurd (g2.pos h7) hr
    rw [hz] at g2 ⊢
    simp at g2
    simp
    exact ⟨g2, by omega⟩

theorem Len.limbs {l : List Int} (h : Dg l) (hl : l ≠ []) {r : Int} (hr : Len (l.getLast hl) r) (hp : 0 < r) : Len (val l) (32 * ((l.length : Int) - 1) + r) := by
  have e := List.dropLast_concat_getLast hl
  generalize l.getLast hl = x at *
  generalize hd : l.dropLast = a at *
  subst e
  have ha := val_bound h.left
  rw [val_snoc]
  have hpow : (4294967296 : Int) ^ a.length = 2 ^ (32 * a.length) := by rw [show (4294967296 : Int) = 2 ^ 32 by decide, ← Int.pow_mul]
  obtain ⟨h1, h2, h3⟩ := hr
  have hlen : ((a ++ [x]).length : Int) - 1 = a.length := by simp
  rw [hlen]
  rw [hpow] at ha ⊢
  have hP : (0 : Int) < 2 ^ (32 * a.length) := Int.pow_pos (by decide)
  refine ⟨by omega, ?_, fun _ => ?_⟩
  · rw [show (32 * (a.length : Int) + r).toNat = 32 * a.length + r.toNat by omega, Int.pow_add]
    have : (2 : Int) ^ (32 * a.length) * (x + 1) ≤ 2 ^ (32 * a.length) * 2 ^ r.toNat := Int.mul_le_mul_of_nonneg_left (by omega) (by omega)
    rw [Int.mul_add] at this
    omega
  · rw [show (32 * (a.length : Int) + r).toNat - 1 = 32 * a.length + (r.toNat - 1) by omega, Int.pow_add]
    have : (2 : Int) ^ (32 * a.length) * 2 ^ (r.toNat - 1) ≤ 2 ^ (32 * a.length) * x := Int.mul_le_mul_of_nonneg_left (h3 hp) (by omega)
    omega

theorem Bits_tot {a : Bool × List Int} (ha : OkI a) : Tot (fun fuel => integer_Bits fuel a) (fun r => r.2 = (0, 0) ∧ Len (val a.2) r.1 ∧ r.1 ≤ 4096) := by
  unfold integer_Bits
  refine Tot.bindq (icheck (l := [(a.1, a.2)]) (fun x hx => by simp at hx; subst hx; exact ha) (by simp)) fun r hr => ?_
  subst hr
  refine Tot.if_ rfl ?_
  refine Tot.bindq (P := fun r => r.2 = (0, 0) ∧ Len (val a.2) r.1 ∧ r.1 ≤ 4096) ?_ fun r hr => Tot.ret hr
  have hl := ha.1
  generalize a.2 = l at hl
  unfold natural_Bits
  refine Tot.bind0 (nvalid hl.2.1 hl.l6 0) (Tot.if_ rfl ?_)
  by_cases h0 : l = []
  · subst h0
    exact Tot.it rfl (Tot.ret ⟨rfl, ⟨by decide, by decide, fun h => absurd h (by decide)⟩, by decide⟩)
  · have hp : 0 < l.length := by
      cases l with
      | nil => exact absurd rfl h0
      | cons => simp
    have hl8 := hl.2.2
    refine Tot.if_ (beq_eq_false_iff_ne.2 (by omega)) ?_
    have hw : IntKind.i64.wrap ((l.length : Int) - 1) = ((l.length - 1 : Nat) : Int) := by rw [i64_small (by omega) (by omega)]; omega
    have hx := hl.1.get (show l.length - 1 < l.length by omega)
    have hlast : l.getLast h0 = l[l.length - 1]'(by omega) := List.getLast_eq_getElem h0
    have hne : l[l.length - 1]'(by omega) ≠ 0 := fun e => by
      rcases hl.2.1 with h | h
      · exact h0 h
      · rw [List.getLast?_eq_some_getLast h0, hlast, e] at h; exact h rfl
    simp only [hw]
    refine Tot.bind0 (idx_nat (by omega)) (Tot.bindq (len32_tot hx.1 hx.2) fun r ⟨h1, h2⟩ => Tot.some_bind (Tot.ret ?_))
    have h3 := h1.pos (by omega)
    have h4 : IntKind.i64.wrap (IntKind.i64.wrap (32 * ((l.length - 1 : Nat) : Int)) + r) = 32 * ((l.length : Int) - 1) + r := by
      rw [i64_small (x := 32 * ((l.length - 1 : Nat) : Int)) (by omega) (by omega), i64_small (by omega) (by omega)]
      omega
    show _ ∧ Len (val l) (IntKind.i64.wrap _) ∧ IntKind.i64.wrap _ ≤ 4096
    rw [h4]
    exact ⟨rfl, Len.limbs hl.1 h0 (by rw [hlast]; exact h1) h3, by omega⟩
end Go.Gv.R
