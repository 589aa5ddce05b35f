import Derived.Test.YtenjigdaaeiklaaL1
set_option linter.all false
namespace Go.Gv.R
open Go Go.Gv Go.Gv.D

theorem whole0 : Tot (fun n => law4_whole n 0) (· = (2, (false, []), (false, []), strOf [], 0)) := Tot.of_all 5 (fun k => by kernel_rfl) rfl

set_option maxRecDepth 100000 in
theorem draws_ok : Tot (fun n => law4_draws n) (· = true) := Tot.of_all 20 (fun k => by kernel_rfl) rfl

theorem tail3 (a b c : Bool) : (if a = true then (if b = true then (some true : Option Bool) else (Option.bind (some c) fun n => some n)) else some false) = some (a && (b || c)) := by
  cases a <;> cases b <;> cases c <;> rfl

theorem RandomDraws_law (seed : Bool × List Int) (g : Int × Int) (n m : Int) (hg1 : U g.1) (hg2 : U g.2) (hn : U n) (hm : U m) : Tot (fun fuel => law4_RandomDraws fuel seed g n m) (· = true) := by
  obtain ⟨s, c⟩ := g
  have hg1 : U s := hg1
  have hg2 : U c := hg2
  have hn5 : U (n.tmod 5000) := by
    rw [Int.tmod_eq_emod_of_nonneg hn.1]
    unfold U at *
    omega
  unfold law4_RandomDraws
  -- the seed
  simp only [seed_eq, IntOk_eq]
  refine Tot.bindq (P := fun r => if okI seed = true then r.2 = (0, 0) ∧ Tot (fun fuel => ref4_Seeded fuel seed) (· = r.1) else r = ((0, 0), (6, -1))) ?_ fun r20 h20 => ?_
  · refine Tot.some_bind (Tot.ite (fun h => ?_) (fun h => ?_))
    · have h : okI seed = false := by simpa using h
      refine Tot.ret ?_
      rw [h]; rfl
    · have h : okI seed = true := by simpa using h
      obtain ⟨r, hr, N, hN⟩ := Seeded_tot h
      refine Tot.bindq (P := fun x => x = r) ⟨r, rfl, N, hN⟩ fun x hx => Tot.ret ?_
      subst hx
      rw [if_pos h]
      exact ⟨rfl, _, rfl, N, hN⟩
  -- the first four results
  refine Tot.bindq (P := fun r => r = if (c.tmod 2 == 0) = true then (0, (0, 0), (6, -1)) else (mixI (stp c s), (stp c s, c), (0, 0))) ?_ fun r84 h84 => ?_
  · cases h : c.tmod 2 == 0 with
    | true => exact ⟨_, by simp, 0, fun k _ => Next_even k s c h⟩
    | false => exact ⟨_, by simp, 0, fun k _ => Next_odd k s c h⟩
  have skip : ∀ (s k : Int), U k → Tot (fun fuel => random_Skip fuel (s, c) k) (fun r => r = if (c.tmod 2 == 0) = true then ((0, 0), (6, -1)) else ((IntKind.u64.wrap (it c s k.toNat), c), (0, 0))) := fun s k hk => by
    cases h : c.tmod 2 == 0 with
    | true => exact ⟨_, by simp, 0, fun j _ => Skip_even j s c k h⟩
    | false => exact (Skip_odd h hk).mono fun r hr => by simpa using hr
  refine Tot.bindq (skip s _ hn5) fun r170 h170 => Tot.bindq (skip s _ hn) fun r278 h278 => Tot.bindq draws_ok fun r408 h408 => ?_
  subst h408
  refine Tot.if_ rfl (Tot.some_bind ?_)
  refine Tot.bindq (P := fun x => x = .inl ()) ?_ fun x hx => ?_
  · refine Tot.ite (fun h => ?_) (fun h => ?_)
    · have h : okI seed = false := by simpa using h
      rw [if_neg (by rw [h]; decide)] at h20
      subst h20
      exact Tot.ret rfl
    · have h : okI seed = true := by simpa using h
      rw [if_pos h] at h20
      obtain ⟨e1, h2⟩ := h20
      refine Tot.bindq (P := fun j => j = false) ?_ fun j hj => ?_
      · refine Tot.if_ (by rw [e1]; rfl) (Tot.bindq h2 fun r hr => ?_)
        subst hr
        refine Tot.ret ?_
        simp
      · subst hj
        exact Tot.ret rfl
  subst hx
  refine Tot.contl ?_
  refine Tot.ite (fun hc => ?_) (fun hc => ?_)
  · simp only [hc, if_true] at h84 h170 h278
    subst h84 h170 h278
    exact Tot.ret rfl
  · simp only [hc, Bool.false_eq_true, if_false] at h84 h170 h278
    simp only [hc, Bool.false_eq_true, if_false] at skip
    refine Tot.bind0 (draw_eq 0 s c) ?_
    refine Tot.bindq (P := fun j => j = false) ?_ fun j hj => ?_
    · subst h84 h170 h278
      exact Tot.if_ rfl (Tot.if_ rfl (Tot.if_ rfl (Tot.if_ (by simp) (Tot.ret (by simp)))))
    subst hj
    refine Tot.if_ rfl ?_
    have hw : ∀ k, IntKind.u64.wrap (it c s k) = it c s k := fun k => wrap_U (U_it hg1 k)
    refine Tot.bindq (draws_tot hn5) fun j hj => ?_
    subst hj
    refine Tot.if_ (by rw [h170, hw]; simp) ?_
    subst h278
    simp only [hw]
    refine Tot.bindq (skip _ m hm) fun r755 h755 => Tot.bindq (skip s _ (U_wrap _)) fun r841 h841 => Tot.bindq (skip s _ (U_wrap _)) fun r949 h949 => Tot.bind0 (Next_odd 0 _ c hc) ?_
    subst h755 h841 h949
    refine Tot.bindq (P := fun j => j = true) ?_ fun j hj => Tot.ret hj
    simp only [BEq.rfl, if_true]
    have e1 : decide (IntKind.u64.wrap (n + m) < n) = false → IntKind.u64.wrap (n + m) = n + m := fun h => by
      have h := of_decide_eq_false h
      rw [u64_wrap] at *
      unfold U at *
      omega
    have e2 : (IntKind.u64.wrap (n + 1) == 0) = false → IntKind.u64.wrap (n + 1) = n + 1 := fun h => by
      have h := beq_eq_false_iff_ne.1 h
      rw [u64_wrap] at *
      unfold U at *
      omega
    have e3 : (IntKind.u64.wrap (n + 1) == 0) = false → (IntKind.u64.wrap (it c s (IntKind.u64.wrap (n + 1)).toNat) == stp c (it c s n.toNat)) = true := fun h => by
      rw [e2 h, hw, show (n + 1).toNat = n.toNat + 1 by unfold U at hn; omega]
      simp [it]
    refine Tot.ite (fun _ => Tot.ite (fun _ => Tot.ret rfl) fun h => ?_) fun ho => ?_
    · refine Tot.ret ?_
      simp only [e3 h]
      rfl
    · refine Tot.it ?_ (Tot.ite (fun _ => Tot.ret rfl) fun h => ?_)
      · rw [e1 ho, it_add, show (n + m).toNat = n.toNat + m.toNat by unfold U at hn hm; omega]
        simp
      · refine Tot.ret ?_
        simp only [e3 h]
        rfl

theorem RandomDraws_said (seed : Bool × List Int) (g : Int × Int) (n m : Int) (_ : True ∧ (∀ x ∈ seed.2, inK .u32 x) ∧ seed.2.length ≤ maxLen) (h1 : inK .u64 g.1 ∧ inK .u64 g.2) (h2 : inK .u64 n) (h3 : inK .u64 m) :
    Tot (fun fuel => law4_RandomDraws fuel seed g n m) (· = true) := RandomDraws_law seed g n m (inK_u64 h1.1) (inK_u64 h1.2) (inK_u64 h2) (inK_u64 h3)
end Go.Gv.R
