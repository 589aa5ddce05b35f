import Derived.Test.YtdpmkphjcjacfaaGreatDoorV1
set_option linter.all false
namespace Go.Gv.P
open Go Go.Gv Go.Gv.D Go.Gv.R
set_option maxRecDepth 100000
theorem bounds_tot {x : Fld} (h2 : x.1.toNat < 256) (h1 : x.1 = ((x.1.toNat : Nat) : Int)) {n : Nat} (hn : n = 1 ∨ n = 2 ∨ n = 4 ∨ n = 8) (hw : wid x.1.toNat = (n : Int) ∧ x.1.toNat ≠ 118) :
    Tot (fun fuel => ref4_bounds fuel x.1) (fun r => Rep (r.1.1, r.1.2) (if x.1.toNat < 97 then 0 else - 2 ^ (8 * n - 1)) ∧ Rep (r.2.1, r.2.2) (if x.1.toNat < 97 then 2 ^ (8 * n) - 1 else 2 ^ (8 * n - 1) - 1)) := by
  unfold ref4_bounds
  have hwo : Tot (fun fuel => ref4_widthOf fuel x.1) (· = (n : Int)) := by
    have := widthOf_tot h2
    rwa [← h1, hw.1] at this
  refine Tot.bindq hwo fun r hr => ?_
  subst hr
  have e8 : IntKind.i64.wrap (8 * (n : Int)) = ((8 * n : Nat) : Int) := by rw [i64_small (by omega) (by omega)]; omega
  refine Tot.bindq (P := (· = ((8 * n : Nat) : Int))) (Tot.if_ (beq_eq_false_iff_ne.2 (by omega)) (Tot.ret e8)) fun j hj => ?_
  subst hj
  have e9 : IntKind.i64.wrap (((8 * n : Nat) : Int) - 1) = ((8 * n - 1 : Nat) : Int) := by rw [i64_small (by omega) (by omega)]; omega
  have hb1 : ((((2 : Int) ^ (8 * n)).natAbs : Nat) : Int) < 1000000000000000000000000000000000000000000000000000000000000 := by rcases hn with e | e | e | e <;> subst e <;> decide +kernel
  have hb2 : ((((2 : Int) ^ (8 * n - 1)).natAbs : Nat) : Int) < 1000000000000000000000000000000000000000000000000000000000000 := by rcases hn with e | e | e | e <;> subst e <;> decide +kernel
  refine Tot.bindq (rNumber (by decide) (by decide)) fun r1 hr1 => Tot.ite (fun g => ?_) (fun g => ?_)
  · have g : x.1 < 97 := of_decide_eq_true g
    rw [if_pos (by omega), if_pos (by omega)]
    refine Tot.bindq (rMoved1 hr1 (by omega)) fun r2 hr2 => Tot.bindq (rNumber (by decide) (by decide)) fun r3 hr3 => Tot.bindq (rPlus hr2 hr3 hb1 (by decide)) fun r4 hr4 => Tot.ret ⟨⟨RI.Ok3.nil, rfl⟩, hr4⟩
  · have g : ¬ x.1 < 97 := of_decide_eq_false g
    rw [if_neg (by omega), if_neg (by omega), e9]
    refine Tot.bindq (rMoved1 hr1 (by omega)) fun r2 hr2 => Tot.bindq (rMinus hr2) fun r5 hr5 => Tot.bindq (rNumber (by decide) (by decide)) fun r3 hr3 => Tot.bindq (rPlus hr2 hr3 hb2 (by decide)) fun r4 hr4 => Tot.ret ⟨hr5, hr4⟩
end Go.Gv.P
namespace Go.Gv.P
open Go Go.Gv Go.Gv.D Go.Gv.R
set_option maxRecDepth 100000
set_option maxHeartbeats 4000000
theorem beq_f {a b : Int} (h : ¬ a = b) : (a == b) = false := beq_eq_false_iff_ne.2 h
theorem beq_t {a b : Int} (h : a = b) : (a == b) = true := beq_iff_eq.2 h
end Go.Gv.P

