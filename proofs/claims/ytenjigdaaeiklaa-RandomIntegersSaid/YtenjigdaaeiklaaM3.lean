import Derived.Test.YtenjigdaaeiklaaM2
import Derived.Test.YtenjigdaaeiklaaL8
set_option linter.all false
namespace Go.Gv.R
open Go Go.Gv Go.Gv.D

/-! ### binary digits -/
def b2 (b : Bool) : Int := if b then 1 else 0
def vbits (l : List Bool) : Int := vb 2 (l.map b2)
theorem b2_db (l : List Bool) : Db 2 (l.map b2) := fun x hx => by
  obtain ⟨b, _, rfl⟩ := List.mem_map.1 hx
  cases b <;> simp [b2]
theorem vbits_bound (l : List Bool) : 0 ≤ vbits l ∧ vbits l < 2 ^ l.length := by
  have := vb_bound (by decide) (b2_db l)
  simpa [vbits] using this
theorem vbits_append (l m : List Bool) : vbits (l ++ m) = vbits l + 2 ^ l.length * vbits m := by
  unfold vbits
  rw [List.map_append, vb_append, List.length_map]
theorem vbits_snoc (l : List Bool) (b : Bool) : vbits (l ++ [b]) = vbits l + 2 ^ l.length * b2 b := by
  rw [vbits_append]; simp [vbits, vb]
/-- trimmed: the last digit is set -/
def TrimB (l r : List Bool) : Prop := (∃ k, l = r ++ List.replicate k false) ∧ (r = [] ∨ r.getLast? = some true)
theorem vbits_zeros (k : Nat) : vbits (List.replicate k false) = 0 := by
  unfold vbits
  rw [List.map_replicate]
  exact vb_zeros k
theorem TrimB.val {l r : List Bool} (h : TrimB l r) : vbits r = vbits l := by
  obtain ⟨⟨k, e⟩, _⟩ := h
  rw [e, vbits_append, vbits_zeros]
  omega
theorem TrimB.len {l r : List Bool} (h : TrimB l r) : r.length ≤ l.length := by
  obtain ⟨⟨k, e⟩, _⟩ := h
  rw [e]; simp
/-- the number of digits of a trimmed list -/
theorem TrimB.Len {l r : List Bool} (h : TrimB l r) : Len (vbits l) r.length := by
  rw [← h.val]
  refine ⟨by omega, by have := (vbits_bound r).2; simpa using this, fun hp => ?_⟩
  rcases h.2 with h0 | h0
  · subst h0; simp at hp
  · have hr : r ≠ [] := fun e => by subst e; simp at h0
    have e := List.dropLast_concat_getLast hr
    have e2 : r.getLast hr = true := by
      have := List.getLast?_eq_some_getLast hr
      rw [h0] at this
      exact (Option.some.inj this).symm
    rw [e2] at e
    have hv := vbits_snoc r.dropLast true
    rw [e] at hv
    rw [hv]
    have := (vbits_bound r.dropLast).1
    have hl : r.dropLast.length = r.length - 1 := List.length_dropLast
    rw [hl]
    simp [b2]
    omega

theorem Len.unique {x p q : Int} (hp : Len x p) (hq : Len x q) (h0 : 0 ≤ x) : p = q := by
  have key : ∀ {p q : Int}, Len x p → Len x q → p < q → False := fun {p q} hp hq h => by
    have h1 := hq.2.2 (by have := hp.1; omega)
    have h2 := hp.2.1
    have h3 : (2 : Int) ^ p.toNat ≤ 2 ^ (q.toNat - 1) := vb_mono (by decide) (by have := hp.1; omega)
    omega
  rcases Int.lt_trichotomy p q with h | h | h
  · exact (key hp hq h).elim
  · exact h
  · exact (key hq hp h).elim

theorem tailB_tot {l : List Bool} (hl : l.length < 4611686018427387904) : Tot (fun fuel => loopN (fun (s71 : (List Bool)) => (Option.bind (if (decide (((List.length s71 : Nat) : Int) > 0)) then (Option.bind (idx s71 (IntKind.i64.wrap (((List.length s71 : Nat) : Int) - 1))) fun x82 => (some ((!x82)))) else (some (false))) fun (j79 : Bool) => (if j79 then (Option.bind (sub s71 0 (IntKind.i64.wrap (((List.length s71 : Nat) : Int) - 1))) fun x89 => (some (.inl x89))) else (some (.inr (s71)))))) fuel l) (TrimB l) := by
  refine Tot.loop (fun st => ∃ k, l = st ++ List.replicate k false) (fun st => st.length) ⟨0, by simp⟩ fun st ⟨k, hk⟩ => ?_
  have hsl : st.length ≤ l.length := by rw [hk]; simp
  by_cases h0 : st = []
  · subst h0
    refine Tot.bindq (P := fun j => j = false) (Tot.if_ rfl (Tot.ret rfl)) fun j hj => ?_
    subst hj
    exact Tot.if_ rfl (Tot.ret ⟨⟨k, hk⟩, .inl rfl⟩)
  · have hp : 0 < st.length := by
      cases st with
      | nil => exact absurd rfl h0
      | cons => simp
    have hw : IntKind.i64.wrap ((st.length : Int) - 1) = ((st.length - 1 : Nat) : Int) := by rw [i64_small (by omega) (by omega)]; omega
    rw [hw]
    have hlast : st.getLast? = some (st[st.length - 1]'(by omega)) := by
      rw [List.getLast?_eq_getElem?, ← List.getElem?_eq_getElem]
    refine Tot.bindq (P := fun j => j = !(st[st.length - 1]'(by omega))) (Tot.it (decide_eq_true (by omega)) (Tot.bind0 (idx_nat (by omega)) (Tot.ret rfl))) fun j hj => ?_
    subst hj
    generalize (st[st.length - 1]'(by omega)) = x at hlast
    refine Tot.ite (fun hx => ?_) (fun hx => ?_)
    · have hx : x = false := by simpa using hx
      subst hx
      refine Tot.bind0 (sub_ok (by omega) (by omega) (by omega)) (Tot.ret ⟨⟨k + 1, ?_⟩, ?_⟩)
      · have e : st = st.dropLast ++ [false] := by
          have h1 := List.dropLast_concat_getLast h0
          have h2 : st.getLast h0 = false := by
            have := List.getLast?_eq_some_getLast h0
            rw [hlast] at this
            exact (Option.some.inj this).symm
          rw [h2] at h1
          exact h1.symm
        show l = (st.take (((st.length - 1 : Nat) : Int)).toNat).drop (0 : Int).toNat ++ _
        rw [show (((st.length - 1 : Nat) : Int)).toNat = st.length - 1 by omega, show (0 : Int).toNat = 0 from rfl, List.drop_zero, ← List.dropLast_eq_take, hk]
        conv => lhs; rw [e]
        rw [List.append_assoc, List.replicate_succ]
        rfl
      · show ((st.take (((st.length - 1 : Nat) : Int)).toNat).drop (0 : Int).toNat).length < st.length
        simp
        omega
    · have hx : x = true := by simpa using hx
      subst hx
      exact Tot.ret ⟨⟨k, hk⟩, .inr hlast⟩

theorem b2_mod {x : Int} (h : 0 ≤ x) : b2 (x.tmod 2 == 1) = x % 2 := by
  rw [Int.tmod_eq_emod_of_nonneg h]
  rcases (by omega : x % 2 = 0 ∨ x % 2 = 1) with e | e <;> rw [e] <;> rfl
theorem mod_twice {a p : Int} (hp : 0 < p) : a % (p * 2) = a % p + p * (a / p % 2) := by
  have h1 := Int.emod_add_mul_ediv a p
  have h2 := Int.emod_add_mul_ediv (a / p) 2
  have h3 : a = (a % p + p * (a / p % 2)) + (p * 2) * (a / p / 2) := by grind
  have h4 := Int.emod_nonneg a (Int.ne_of_gt hp)
  have h5 := Int.emod_lt_of_pos a hp
  conv => lhs; rw [h3]
  rw [Int.add_mul_emod_self_left]
  rcases (by omega : a / p % 2 = 0 ∨ a / p % 2 = 1) with e | e <;> rw [e] <;> apply Int.emod_eq_of_lt <;> omega
theorem Ones_tot {a : List Int} (ha : Ok3 a) : Tot (fun fuel => ref3_Ones fuel a) (fun r => vbits r = w a ∧ (r = [] ∨ r.getLast? = some true) ∧ r.length ≤ 16 * a.length) := by
  obtain ⟨da, na, la⟩ := ha
  unfold ref3_Ones
  refine Tot.bindq (P := fun r => vbits r = w a ∧ r.length = 16 * a.length) ?_ fun r ⟨h1, h2⟩ => ?_
  · refine Tot.loop (fun st => ∃ i : Nat, st.2 = (i : Int) ∧ i ≤ a.length ∧ st.1.length = 16 * i ∧ vbits st.1 = w (a.take i)) (fun st => a.length - st.2.toNat)
      ⟨0, rfl, by omega, rfl, by simp [w, vb, vbits]⟩ fun st ⟨i, e, hi, g1, g2⟩ => ?_
    obtain ⟨out, k⟩ := st
    simp only at e g1 g2
    subst e
    refine Tot.ite (fun h => ?_) (fun h => ?_)
    · have h : i < a.length := by have : ((i : Nat) : Int) < (a.length : Int) := of_decide_eq_true h; omega
      have hx := da.get h
      have ta := vb_take_succ (b := 65536) h
      refine Tot.bind0 (idx_nat h) ?_
      refine Tot.bindq (P := fun o => o.length = 16 * (i + 1) ∧ vbits o = w (a.take (i + 1))) ?_ fun o ⟨k1, k2⟩ => ?_
      · refine Tot.loop (fun st => ∃ j : Nat, st.2.2 = (j : Int) ∧ j ≤ 16 ∧ st.1.length = 16 * i + j ∧ st.2.1 = a[i] / 2 ^ j ∧ vbits st.1 = w (a.take i) + 65536 ^ i * (a[i] % 2 ^ j)) (fun st => 16 - st.2.2.toNat)
          ⟨0, rfl, by omega, g1, by simp, by simp [g2, Int.emod_one]⟩ fun st ⟨j, e, hj, m1, m2, m3⟩ => ?_
        obtain ⟨o, x, z⟩ := st
        simp only at e m1 m2 m3
        subst e
        have hxx : 0 ≤ x := by rw [m2]; exact Int.ediv_nonneg hx.1 (Int.le_of_lt (Int.pow_pos (by decide)))
        have hx2 : x < 65536 := by rw [m2]; exact Int.lt_of_le_of_lt (Int.ediv_le_self _ hx.1) hx.2
        refine Tot.ite (fun hh => ?_) (fun hh => ?_)
        · have hh : j < 16 := by have : ((j : Nat) : Int) < 16 := of_decide_eq_true hh; omega
          refine Tot.bind0 (app_ok (by simp; omega)) (Tot.ret ?_)
          have hw : IntKind.i64.wrap ((j : Int) + 1) = ((j + 1 : Nat) : Int) := by rw [i64_small (by omega) (by omega)]; omega
          have e2 : IntKind.i64.wrap (x.tdiv 2) = x / 2 := by rw [Int.tdiv_eq_ediv_of_nonneg hxx, i64_small (by omega) (by omega)]
          simp only [hw, e2]
          have hp : (0 : Int) < 2 ^ j := Int.pow_pos (by decide)
          refine ⟨⟨j + 1, rfl, by omega, by simp [m1]; omega, ?_, ?_⟩, by show 16 - (((j + 1 : Nat) : Int)).toNat < 16 - ((j : Nat) : Int).toNat; omega⟩
          · rw [m2, Int.pow_succ, Int.ediv_ediv_of_nonneg (Int.le_of_lt hp)]
          · rw [vbits_snoc, m3, b2_mod hxx, m1, show 16 * i + j = 16 * i + j from rfl, Int.pow_add, Int.pow_mul, show (2 : Int) ^ 16 = 65536 by decide, m2]
            have e3 : a[i] % 2 ^ (j + 1) = a[i] % 2 ^ j + 2 ^ j * (a[i] / 2 ^ j % 2) := by
              rw [Int.pow_succ]
              exact mod_twice hp
            rw [e3]
            grind
        · have hh : j = 16 := by have : ¬ ((j : Nat) : Int) < 16 := of_decide_eq_false hh; omega
          subst hh
          refine Tot.ret ⟨by show o.length = _; omega, ?_⟩
          show vbits o = _
          rw [m3, show (2 : Int) ^ 16 = 65536 by decide, Int.emod_eq_of_lt hx.1 hx.2, w, w, ta]
      · refine Tot.ret ?_
        have hw : IntKind.i64.wrap ((i : Int) + 1) = ((i + 1 : Nat) : Int) := by rw [i64_small (by omega) (by omega)]; omega
        simp only [hw]
        exact ⟨⟨i + 1, rfl, by omega, k1, k2⟩, by show a.length - (((i + 1 : Nat) : Int)).toNat < a.length - ((i : Nat) : Int).toNat; omega⟩
    · have h : i = a.length := by have : ¬ ((i : Nat) : Int) < (a.length : Int) := of_decide_eq_false h; omega
      subst h
      rw [List.take_length] at g2
      exact Tot.ret ⟨g2, g1⟩
  · refine Tot.bindq (tailB_tot (by omega)) fun t ht => Tot.ret ⟨by rw [ht.val, h1], ht.2, ?_⟩
    have := ht.len
    omega

theorem Binary_tot {l : List Bool} (hl : l.length ≤ 400000) : Tot (fun fuel => ref3_Binary fuel l) (fun r => Ok3 r ∧ w r = vbits l) := by
  unfold ref3_Binary
  refine Tot.bindq (P := fun r => Db 65536 r ∧ r.length ≤ (l.length + 15) / 16 ∧ w r = vbits l) ?_ fun r ⟨h1, h2, h3⟩ => ?_
  · refine Tot.loop (fun st => ∃ i : Nat, st.2 = ((16 * i : Nat) : Int) ∧ 16 * i ≤ l.length + 15 ∧ Db 65536 st.1 ∧ st.1.length = i ∧ w st.1 = vbits (l.take (16 * i))) (fun st => l.length + 16 - st.2.toNat)
      ⟨0, rfl, by omega, Db.nil, rfl, by simp [w, vb, vbits]⟩ fun st ⟨i, e, hi, g1, g2, g3⟩ => ?_
    obtain ⟨out, z⟩ := st
    simp only at e g1 g2 g3
    subst e
    refine Tot.ite (fun h => ?_) (fun h => ?_)
    · have h : 16 * i < l.length := by have : ((16 * i : Nat) : Int) < (l.length : Int) := of_decide_eq_true h; omega
      refine Tot.bindq (P := fun x => x = vbits ((l.drop (16 * i)).take 16)) ?_ fun x hx => ?_
      · refine Tot.loop (fun st => ∃ j : Nat, st.2 = (j : Int) - 1 ∧ j ≤ 16 ∧ st.1 = vbits (((l.drop (16 * i)).take 16).drop j)) (fun st => (st.2 + 1).toNat)
          ⟨16, rfl, by omega, by rw [List.drop_eq_nil_of_le (by simp; omega)]; rfl⟩ fun st ⟨j, e, hj, m1⟩ => ?_
        obtain ⟨x, z⟩ := st
        simp only at e m1
        subst e
        have hlt : (((l.drop (16 * i)).take 16).drop j).length ≤ 16 := by simp; omega
        have hxb := vbits_bound (((l.drop (16 * i)).take 16).drop j)
        have hxb2 : vbits (((l.drop (16 * i)).take 16).drop j) < 65536 := Int.lt_of_lt_of_le hxb.2 (by
          have := vb_mono (b := 2) (by decide) hlt
          exact this)
        rw [← m1] at hxb hxb2
        refine Tot.ite (fun hh => ?_) (fun hh => ?_)
        · have hh : 1 ≤ j := by have : (j : Int) - 1 ≥ 0 := of_decide_eq_true hh; omega
          have hw : IntKind.i64.wrap (((16 * i : Nat) : Int) + ((j : Int) - 1)) = ((16 * i + (j - 1) : Nat) : Int) := by rw [i64_small (by omega) (by omega)]; omega
          have hw2 : IntKind.i64.wrap ((j : Int) - 1 - 1) = ((j - 1 : Nat) : Int) - 1 := by rw [i64_small (by omega) (by omega)]; omega
          simp only [hw, hw2]
          refine Tot.bindq (P := fun y => y = l.getD (16 * i + (j - 1)) false) ?_ fun y hy => ?_
          · refine Tot.ite (fun hq => ?_) (fun hq => ?_)
            · have hq : 16 * i + (j - 1) < l.length := by have : ((16 * i + (j - 1) : Nat) : Int) < (l.length : Int) := of_decide_eq_true hq; omega
              exact Tot.bind0 (idx_nat hq) (Tot.ret (by simp [List.getD, hq]))
            · have hq : l.length ≤ 16 * i + (j - 1) := by have : ¬ ((16 * i + (j - 1) : Nat) : Int) < (l.length : Int) := of_decide_eq_false hq; omega
              exact Tot.ret (by simp [List.getD, hq])
          · have hstep : vbits (((l.drop (16 * i)).take 16).drop (j - 1)) = b2 y + 2 * x := by
              subst hy
              rw [m1]
              by_cases hq : 16 * i + (j - 1) < l.length
              · have hj1 : j - 1 < ((l.drop (16 * i)).take 16).length := by simp; omega
                rw [List.drop_eq_getElem_cons hj1, show j - 1 + 1 = j by omega]
                have : ((l.drop (16 * i)).take 16)[j - 1]'hj1 = l.getD (16 * i + (j - 1)) false := by
                  simp [List.getD, hq]
                rw [this]
                rfl
              · rw [List.drop_eq_nil_of_le (by simp; omega), List.drop_eq_nil_of_le (by simp; omega)]
                simp [List.getD, Nat.not_lt.1 hq, vbits, vb, b2]
            refine Tot.bindq (P := fun q => q = b2 y + 2 * x) ?_ fun q hq => ?_
            · have hw3 : IntKind.i64.wrap (x * 2) = x * 2 := i64_small (by omega) (by omega)
              rw [hw3]
              refine Tot.ite (fun hy1 => Tot.some_bind (Tot.ret ?_)) (fun hy1 => Tot.ret ?_)
              · rw [i64_small (by omega) (by omega), hy1]
                simp [b2]; omega
              · rw [hy1]
                simp [b2]; omega
            · refine Tot.ret ⟨⟨j - 1, rfl, by omega, by rw [hq, hstep]⟩, ?_⟩
              show (((j - 1 : Nat) : Int) - 1 + 1).toNat < ((j : Int) - 1 + 1).toNat
              omega
        · have hh : j = 0 := by have : ¬ (j : Int) - 1 ≥ 0 := of_decide_eq_false hh; omega
          subst hh
          refine Tot.ret ?_
          show x = _
          rw [m1, List.drop_zero]
      · refine Tot.bind0 (app_ok (by simp; omega)) (Tot.ret ?_)
        have hw : IntKind.i64.wrap (((16 * i : Nat) : Int) + 16) = ((16 * (i + 1) : Nat) : Int) := by rw [i64_small (by omega) (by omega)]; omega
        simp only [hw]
        have hb := vbits_bound ((l.drop (16 * i)).take 16)
        have hb2 : vbits ((l.drop (16 * i)).take 16) < 65536 := Int.lt_of_lt_of_le hb.2 (by
          have := vb_mono (b := 2) (by decide) (show ((l.drop (16 * i)).take 16).length ≤ 16 by simp; omega)
          exact this)
        refine ⟨⟨i + 1, rfl, by omega, g1.append (Db.one (by omega)), by simp [g2], ?_⟩, by show l.length + 16 - (((16 * (i + 1) : Nat) : Int)).toNat < l.length + 16 - ((16 * i : Nat) : Int).toNat; omega⟩
        rw [w, vb_snoc, g2, hx]
        have e1 : l.take (16 * (i + 1)) = l.take (16 * i) ++ (l.drop (16 * i)).take 16 := by
          rw [show 16 * (i + 1) = 16 * i + 16 by omega, List.take_add]
        rw [e1, vbits_append, List.length_take, Nat.min_eq_left (by omega), Int.pow_mul, show (2 : Int) ^ 16 = 65536 by decide, ← g3]
    · have h : l.length ≤ 16 * i := by have : ¬ ((16 * i : Nat) : Int) < (l.length : Int) := of_decide_eq_false h; omega
      refine Tot.ret ⟨g1, by show out.length ≤ _; omega, ?_⟩
      rw [g3, List.take_of_length_le h]
  · refine Tot.bindq (rtrim_tot (by omega)) fun t ht => Tot.ret ⟨⟨ht.db h1, ht.nz, ?_⟩, by rw [w, ht.vb]; exact h3⟩
    have := ht.len; omega

/-- a small number's absolute value -/
theorem Number_tot {n : Int} (h0 : -4611686018427387904 < n) (h1 : n < 4611686018427387904) : Tot (fun fuel => ref3_Number fuel n) (fun r => r.1 = decide (n < 0) ∧ Ok3 r.2 ∧ w r.2 = n.natAbs) := by
  unfold ref3_Number
  refine Tot.bindq (P := fun l => vbits l = n.natAbs ∧ l.length ≤ 64) ?_ fun l ⟨g1, g2⟩ => ?_
  · refine Tot.loop (fun st => ∃ i : Nat, i ≤ 63 ∧ st.2.length = i ∧ (n.natAbs : Int) = vbits st.2 + 2 ^ i * st.1.natAbs ∧ (st.1.natAbs : Int) < 2 ^ (63 - i)) (fun st => st.1.natAbs)
      ⟨0, by omega, rfl, by simp [vbits, vb], by show ((n.natAbs : Nat) : Int) < 2 ^ 63; have : (2 : Int) ^ 63 = 9223372036854775808 := by decide
                                                 omega⟩ fun st ⟨i, hi, m1, m2, m3⟩ => ?_
    obtain ⟨x, l⟩ := st
    simp only at m1 m2 m3
    refine Tot.ite (fun hh => ?_) (fun hh => ?_)
    · have hh : x ≠ 0 := by simpa using hh
      have hi2 : i < 63 := by
        rcases Nat.lt_or_ge i 63 with h | h
        · exact h
        · rw [show 63 - i = 0 by omega] at m3
          simp at m3
          omega
      have hxb : (x.natAbs : Int) < 9223372036854775808 := Int.lt_of_lt_of_le m3 (by
        have := vb_mono (b := 2) (by decide) (show 63 - i ≤ 63 by omega)
        exact this)
      have hdv : (x.tdiv 2).natAbs = x.natAbs / 2 := by rw [Int.natAbs_tdiv]; rfl
      have hmod : (x.tmod 2 != 0) = decide (x.natAbs % 2 = 1) := by
        have e : (x.tmod 2).natAbs = x.natAbs % 2 := by rw [Int.natAbs_tmod]; rfl
        by_cases h2 : x.natAbs % 2 = 1
        · rw [decide_eq_true h2]
          exact bne_iff_ne.2 (fun e0 => by rw [e0] at e; simp at e; omega)
        · rw [decide_eq_false h2]
          have : x.tmod 2 = 0 := Int.natAbs_eq_zero.1 (by omega)
          rw [this]; rfl
      have hw : IntKind.i64.wrap (x.tdiv 2) = x.tdiv 2 := i64_wrap (by omega) (by omega)
      refine Tot.bind0 (app_ok (by simp; omega)) (Tot.ret ?_)
      simp only [hw]
      refine ⟨⟨i + 1, by omega, by simp [m1], ?_, ?_⟩, by show (x.tdiv 2).natAbs < x.natAbs; omega⟩
      · show (n.natAbs : Int) = vbits (l ++ [x.tmod 2 != 0]) + 2 ^ (i + 1) * ((x.tdiv 2).natAbs : Int)
        rw [vbits_snoc, m1, m2, hmod, hdv, Int.pow_succ]
        have e1 : b2 (decide (x.natAbs % 2 = 1)) = ((x.natAbs % 2 : Nat) : Int) := by
          rcases Nat.mod_two_eq_zero_or_one x.natAbs with h | h <;> rw [h] <;> rfl
        rw [e1]
        have e2 : (x.natAbs : Int) = ((x.natAbs % 2 : Nat) : Int) + 2 * ((x.natAbs / 2 : Nat) : Int) := by omega
        generalize (2 : Int) ^ i = P
        generalize ((x.natAbs % 2 : Nat) : Int) = u at *
        generalize ((x.natAbs / 2 : Nat) : Int) = v at *
        rw [e2]
        grind
      · show ((x.tdiv 2).natAbs : Int) < 2 ^ (63 - (i + 1))
        rw [hdv]
        have e : (2 : Int) ^ (63 - i) = 2 ^ (63 - (i + 1)) * 2 := by rw [← Int.pow_succ]; congr 1; omega
        omega
    · have hh : x = 0 := by simpa using hh
      subst hh
      refine Tot.ret ⟨?_, by show l.length ≤ 64; omega⟩
      show vbits l = _
      rw [m2]; simp
  · refine Tot.bindq (Binary_tot (by omega)) fun r ⟨r1, r2⟩ => Tot.ret ⟨rfl, r1, ?_⟩
    show w r = _
    rw [r2, g1]
end Go.Gv.R
