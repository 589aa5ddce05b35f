import Derived.Test.YtenjigdaaeiklaaM4
import Derived.Test.YtenjigdaaeiklaaL0
set_option linter.all false
namespace Go.Gv.R
open Go Go.Gv Go.Gv.D

theorem odd_of' {c : Int} (h : (c.tmod 2 == 0) = false) (hU : U c) : c % 2 = 1 := by
  have h := beq_eq_false_iff_ne.1 h
  rw [Int.tmod_eq_emod_of_nonneg hU.1] at h
  omega
theorem Drawn.U {c s v : Int} {x : List Int} {s' : Int} (h : Drawn c s v x s') (hs : U s) : U s' := by
  obtain ⟨size, m, _, _, e, _⟩ := h
  rw [e]
  exact U_it hs _

/-- what random.Below gives -/
def BelowR (c s : Int) (n : Bool × List Int) (r : (Bool × List Int) × (Int × Int) × (Int × Int)) : Prop :=
  if okI n = false then r = ((false, []), (0, 0), (6, -2))
  else if n.1 = true ∨ n.2 = [] then r = ((false, []), (0, 0), (4, -2))
  else r.1.1 = false ∧ r.2.1.2 = c ∧ r.2.2 = (0, 0) ∧ Drawn c s (val n.2) r.1.2 r.2.1.1
theorem Below_even (fuel : Nat) (s c : Int) (n : Bool × List Int) (h : (c.tmod 2 == 0) = true) : random_Below fuel (s, c) n = some ((false, []), (0, 0), (6, -1)) := by
  unfold random_Below
  rw [open_even fuel s c h]
  rfl
theorem Below_tot {s c : Int} (h : (c.tmod 2 == 0) = false) (hc : U c) (hs : U s) {n : Bool × List Int} (hd : Dg n.2) : Tot (fun fuel => random_Below fuel (s, c) n) (BelowR c s n) := by
  obtain ⟨x, l⟩ := n
  have hd : Dg l := hd
  unfold random_Below
  refine Tot.bind0 (a := (some (s, c), (0, 0))) (open_odd 0 s c h) ?_
  refine Tot.opt (fun e => by cases e) fun y e => ?_
  cases e
  refine Tot.if_ rfl (Tot.bind0 (a := okI (x, l)) (IntOk_eq 0 (x, l)) (Tot.ite (fun hk => ?_) (fun hk => ?_)))
  · have hk : okI (x, l) = false := by simpa using hk
    refine Tot.ret ?_
    unfold BelowR
    rw [if_pos hk]
  · have hk : okI (x, l) = true := by simpa using hk
    have ho := (OkI_iff hd).1 hk
    have hl : OkL l := ho.1
    unfold BelowR
    simp only [hk, Bool.true_eq_false, if_false]
    refine Tot.bindq (P := fun j => j = (x || decide (l.length = 0))) ?_ fun j hj => ?_
    · refine Tot.ite (fun hx => Tot.ret ?_) (fun hx => Tot.ret ?_)
      · have hx : x = true := hx
        rw [hx]; rfl
      · have hx : x = false := hx
        rw [hx]
        show (((l.length : Nat) : Int) == 0) = _
        by_cases h0 : l.length = 0
        · rw [h0]; rfl
        · rw [decide_eq_false h0]; exact beq_eq_false_iff_ne.2 (by omega)
    subst hj
    refine Tot.ite (fun hh => ?_) (fun hh => ?_)
    · have hh : x = true ∨ l = [] := by simpa using hh
      refine Tot.ret ?_
      rw [if_pos hh]
    · have hh : x = false ∧ l ≠ [] := by simpa using hh
      obtain ⟨hx, h0⟩ := hh
      subst hx
      have hv : 1 ≤ val l := by
        have h1 := val_lt_big hl
        have : val l ≠ 0 := fun e => h0 (val_zero hl.1 hl.2.1 e)
        omega
      refine Tot.bindq (below_tot (odd_of' h hc) hs hl hv) fun r ⟨r1, r2, r3⟩ => Tot.ret ?_
      rw [if_neg (by simp [h0])]
      exact ⟨r1, r2, rfl, r3⟩

/-- what random.Between gives -/
def BetweenR (c s : Int) (lo hi : Bool × List Int) (r : (Bool × List Int) × (Int × Int) × (Int × Int)) : Prop :=
  if okI lo = false then r = ((false, []), (0, 0), (6, -2))
  else if okI hi = false then r = ((false, []), (0, 0), (6, -3))
  else if ival hi < ival lo then r = ((false, []), (0, 0), (4, -3))
  else if Big ≤ ival hi - ival lo + 1 then r = ((false, []), (0, 0), (14, -3))
  else ∃ x, r.2.1.2 = c ∧ r.2.2 = (0, 0) ∧ Drawn c s (ival hi - ival lo + 1) x r.2.1.1 ∧ OkI r.1 ∧ ival r.1 = ival lo + val x
theorem Between_even (fuel : Nat) (s c : Int) (lo hi : Bool × List Int) (h : (c.tmod 2 == 0) = true) : random_Between fuel (s, c) lo hi = some ((false, []), (0, 0), (6, -1)) := by
  unfold random_Between
  rw [open_even fuel s c h]
  rfl
theorem ival_bound {a : Bool × List Int} (h : OkI a) : -Big < ival a ∧ ival a < Big := by
  have := val_lt_big h.1
  unfold ival
  split <;> omega
theorem Between_tot {s c : Int} (h : (c.tmod 2 == 0) = false) (hc : U c) (hs : U s) {lo hi : Bool × List Int} (hd : Dg lo.2) (hd' : Dg hi.2) : Tot (fun fuel => random_Between fuel (s, c) lo hi) (BetweenR c s lo hi) := by
  unfold random_Between
  refine Tot.bind0 (a := (some (s, c), (0, 0))) (open_odd 0 s c h) ?_
  refine Tot.opt (fun e => by cases e) fun y e => ?_
  cases e
  refine Tot.if_ rfl (Tot.bind0 (a := okI lo) (IntOk_eq 0 lo) (Tot.ite (fun hk => ?_) (fun hk => ?_)))
  · have hk : okI lo = false := by simpa using hk
    refine Tot.ret ?_
    unfold BetweenR
    rw [if_pos hk]
  have hk : okI lo = true := by simpa using hk
  have hlo := (OkI_iff hd).1 hk
  refine Tot.bind0 (a := okI hi) (IntOk_eq 0 hi) (Tot.ite (fun hk' => ?_) (fun hk' => ?_))
  · have hk' : okI hi = false := by simpa using hk'
    refine Tot.ret ?_
    unfold BetweenR
    rw [hk]
    simp [hk']
  have hk' : okI hi = true := by simpa using hk'
  have hhi := (OkI_iff hd').1 hk'
  have b1 := ival_bound hlo
  have b2 := ival_bound hhi
  unfold BetweenR
  simp only [hk, hk', Bool.true_eq_false, if_false]
  refine Tot.bindq (Cmp_tot (a := hi) (b := lo) hhi hlo) fun q ⟨q1, q2, q3⟩ => Tot.ite (fun hq => ?_) (fun hq => ?_)
  · have hq : q.1 < 0 := of_decide_eq_true hq
    refine Tot.ret ?_
    rw [if_pos (q2.1 hq)]
  have hq : ¬ q.1 < 0 := of_decide_eq_false hq
  have hge : ¬ ival hi < ival lo := fun e => hq (q2.2 e)
  simp only [if_neg hge]
  have hBig : 0 < Big := by decide
  refine Tot.bindq (Sub_tot (a := hi) (b := lo) hhi hlo) fun d hdd => ?_
  refine Tot.bindq (P := fun j => if Big ≤ ival hi - ival lo + 1 then j.1.1 ≠ 0 else j.1.1 = 0 ∧ OkI j.2 ∧ ival j.2 = ival hi - ival lo + 1) ?_ fun j hj => ?_
  · by_cases hB : ival hi - ival lo < Big
    · rw [if_pos ⟨by omega, hB⟩] at hdd
      obtain ⟨d1, d2, d3⟩ := hdd
      refine Tot.it (by rw [d1]; rfl) (Tot.bindq (Of_tot (n := 1) (by decide) (by decide)) fun o ⟨o1, o2⟩ => Tot.bindq (Add_tot (a := d.1) (b := o) d2 o1) fun t ht => Tot.ret ?_)
      rw [d3, o2] at ht
      by_cases hB2 : Big ≤ ival hi - ival lo + 1
      · rw [if_neg (by omega)] at ht
        rw [if_pos hB2, ht]
        show (14 : Int) ≠ 0
        decide
      · rw [if_pos ⟨by omega, by omega⟩] at ht
        rw [if_neg hB2]
        obtain ⟨t1, t2, t3⟩ := ht
        exact ⟨by rw [t1], t2, t3⟩
    · rw [if_neg (by omega)] at hdd
      subst hdd
      refine Tot.if_ rfl (Tot.ret ?_)
      rw [if_pos (by omega)]
      show (14 : Int) ≠ 0
      decide
  · refine Tot.ite (fun hj1 => ?_) (fun hj1 => ?_)
    · have hj1 : j.1.1 ≠ 0 := by simpa using hj1
      refine Tot.ret ?_
      by_cases hB2 : Big ≤ ival hi - ival lo + 1
      · rw [if_pos hB2]
      · rw [if_neg hB2] at hj
        exact absurd hj.1 hj1
    · have hj1 : j.1.1 = 0 := by simpa using hj1
      by_cases hB2 : Big ≤ ival hi - ival lo + 1
      · rw [if_pos hB2] at hj
        exact absurd hj1 hj
      · rw [if_neg hB2] at hj
        simp only [if_neg hB2]
        obtain ⟨_, j1, j2⟩ := hj
        have hneg : j.2.1 = false := by
          have hb := val_lt_big j1.1
          have j3 : (if j.2.1 = true then - val j.2.2 else val j.2.2) = ival hi - ival lo + 1 := j2
          cases ho : j.2.1 with
          | false => rfl
          | true => rw [ho] at j3; simp only [if_true] at j3; omega
        have hv : val j.2.2 = ival hi - ival lo + 1 := by rw [← j2]; unfold ival; rw [hneg]; rfl
        rw [hneg]
        refine Tot.bindq (below_tot (odd_of' h hc) hs j1.1 (by omega)) fun r ⟨r1, r2, r3⟩ => ?_
        obtain ⟨k1, k2, k3⟩ := r3.ok
        rw [r1]
        have hx : OkI (false, r.1.2) := ⟨k1, fun _ => rfl⟩
        have hxv : ival (false, r.1.2) = val r.1.2 := rfl
        refine Tot.bindq (Add_tot (a := lo) (b := (false, r.1.2)) hlo hx) fun t ht => Tot.ret ?_
        rw [hxv, if_pos ⟨by omega, by omega⟩] at ht
        obtain ⟨t1, t2, t3⟩ := ht
        exact ⟨r.1.2, r2, rfl, by rw [← hv]; exact r3, t2, t3⟩
end Go.Gv.R
