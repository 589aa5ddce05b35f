import Derived.Test.YtbiopeiafkldiaaGreatDoorT5
set_option linter.all false
namespace Go.Gv.P
open Go Go.Gv Go.Gv.D Go.Gv.R Go.Lib
set_option maxRecDepth 100000

def inB (S : List UInt8) (x : Int) : Bool := S.contains (UInt8.ofNat x.toNat)
theorem byte_cast {x : Int} (h : 0 ≤ x ∧ x < 256) : x = (((UInt8.ofNat x.toNat).toNat : Nat) : Int) := by
  rw [UInt8.toNat_ofNat', Nat.mod_eq_of_lt (by omega)]; omega
theorem inB_tot {S : List UInt8} (hS : SetOk S) {x : Int} (h : 0 ≤ x ∧ x < 256) : Tot (fun n => fmtspec_in n x (strOf S)) (· = inB S x) := by
  have := in_tot hS (UInt8.ofNat x.toNat)
  rw [← byte_cast h] at this
  exact this
theorem oneB_tot {S : List UInt8} (hS : SetOk S) {x : Int} (h : 0 ≤ x ∧ x < 256) : Tot (fun n => ref4_oneOf n x (strOf S)) (· = inB S x) := by
  have := one_tot hS (UInt8.ofNat x.toNat)
  rw [← byte_cast h] at this
  exact this
def offS (S : List UInt8) (x : Int) : Bool := x != 0 && !(inB S x)
def okFill (x : Int) : Bool := decide ((0 ≤ x ∧ x < 55296) ∨ (57343 < x ∧ x ≤ 1114111))
def badS (s : Sp) : Bool :=
  (((!(okFill s.1) || (s.1 == 123 || s.1 == 125)) || (s.1 != 0 && s.2.1 == 0)) || (offS AL s.2.1 || offS SG s.2.2.1)) || (offS GR s.2.2.2.2.2.2.1 || (offS TY s.2.2.2.2.2.2.2.2.2 || (!s.2.2.2.2.2.2.2.1 && s.2.2.2.2.2.2.2.2.1 != 0)))
def outS (s : Sp) : Bool := decide (s.2.2.2.2.2.1 < 0 ∨ s.2.2.2.2.2.1 > 400 ∨ s.2.2.2.2.2.2.2.2.1 < 0 ∨ s.2.2.2.2.2.2.2.2.1 > 400)
def spF (s : Sp) : Int × Int := if badS s = true then (6, -1) else if outS s = true then (4, -1) else (0, 0)
theorem spF_bad {s : Sp} (h : badS s = true) : spF s = (6, -1) := by unfold spF; rw [if_pos h]
theorem spF_out {s : Sp} (h : badS s = false) (h2 : outS s = true) : spF s = (4, -1) := by unfold spF; rw [if_neg (by rw [h]; decide), if_pos h2]
theorem spF_ok {s : Sp} (h : badS s = false) (h2 : outS s = false) : spF s = (0, 0) := by unfold spF; rw [if_neg (by rw [h]; decide), if_neg (by rw [h2]; decide)]
structure SpOk (s : Sp) : Prop where
  al : 0 ≤ s.2.1 ∧ s.2.1 < 256
  sg : 0 ≤ s.2.2.1 ∧ s.2.2.1 < 256
  gr : 0 ≤ s.2.2.2.2.2.2.1 ∧ s.2.2.2.2.2.2.1 < 256
  ty : 0 ≤ s.2.2.2.2.2.2.2.2.2 ∧ s.2.2.2.2.2.2.2.2.2 < 256
theorem out_tot (s : Sp) : Tot (fun _ => if (decide (s.2.2.2.2.2.1 < 0)) = true then some true else if (decide (s.2.2.2.2.2.1 > 400)) = true then some true else if (decide (s.2.2.2.2.2.2.2.2.1 < 0)) = true then some true else some (decide (s.2.2.2.2.2.2.2.2.1 > 400))) (· = outS s) := by
  unfold outS
  refine Tot.ite (fun h => Tot.ret ?_) (fun h => Tot.ite (fun h2 => Tot.ret ?_) (fun h2 => Tot.ite (fun h3 => Tot.ret ?_) (fun h3 => Tot.ret ?_)))
  · exact (decide_eq_true (.inl (of_decide_eq_true h))).symm
  · exact (decide_eq_true (.inr (.inl (of_decide_eq_true h2)))).symm
  · exact (decide_eq_true (.inr (.inr (.inl (of_decide_eq_true h3))))).symm
  · have h := of_decide_eq_false h
    have h2 := of_decide_eq_false h2
    have h3 := of_decide_eq_false h3
    exact decide_eq_decide.2 ⟨fun h => .inr (.inr (.inr h)), fun hh => by omega⟩
theorem chk_step {S : List UInt8} (hS : SetOk S) {x : Int} (hx : 0 ≤ x ∧ x < 256) {K : Nat → Option Bool} {k : Bool} (hK : Tot K (· = k)) :
    Tot (fun n => Option.bind (if (x != 0) = true then Option.bind (fmtspec_in n x (strOf S)) fun r => some (!r) else some false) fun j => if j = true then some j else K n) (· = (offS S x || k)) := by
  refine Tot.bindq (P := (· = offS S x)) ?_ fun j hj => ?_
  · unfold offS
    refine Tot.ite (fun h => ?_) (fun h => Tot.ret (by rw [h]; rfl))
    exact Tot.bindq (inB_tot hS hx) fun r hr => Tot.ret (by rw [hr, h]; rfl)
  · subst hj
    refine Tot.ite (fun h => Tot.ret (by rw [h]; rfl)) (fun h => ?_)
    rw [h, Bool.false_or]; exact hK
theorem ref_step {S : List UInt8} (hS : SetOk S) {x : Int} (hx : 0 ≤ x ∧ x < 256) {K K' : Nat → Option Bool} {k : Bool} (hK : Tot K (· = k)) (hK' : Tot K' (· = k)) :
    Tot (fun n => if (x != 0) = true then Option.bind (ref4_oneOf n x (strOf S)) fun r => if (!r) = true then some true else K n else K' n) (· = (offS S x || k)) := by
  unfold offS
  refine Tot.ite (fun h => ?_) (fun h => by rw [h]; exact hK')
  refine Tot.bindq (oneB_tot hS hx) fun r hr => ?_
  subst hr
  rw [h, Bool.true_and]
  refine Tot.ite (fun h => Tot.ret (by rw [h]; rfl)) (fun h => ?_)
  rw [h, Bool.false_or]; exact hK
theorem ref_last {S : List UInt8} (hS : SetOk S) {x : Int} (hx : 0 ≤ x ∧ x < 256) :
    Tot (fun n => if (x != 0) = true then Option.bind (ref4_oneOf n x (strOf S)) fun r => some (!r) else some false) (· = offS S x) := by
  unfold offS
  refine Tot.ite (fun h => ?_) (fun h => Tot.ret (by rw [h]; rfl))
  exact Tot.bindq (oneB_tot hS hx) fun r hr => Tot.ret (by rw [hr, h]; rfl)
theorem prec_last (a : Bool) (x : Int) : Tot (fun _ => if (!a) = true then some (x != 0) else some false) (· = (!a && x != 0)) :=
  Tot.ite (fun h => Tot.ret (by rw [h]; rfl)) (fun h => Tot.ret (by rw [h]; rfl))
theorem i32_in {x : Int} (h0 : 0 ≤ x) (h1 : x ≤ 1114111) : IntKind.i32.wrap x = x := i32_small h0 (by omega)
theorem Check_tot {s : Sp} (hs : SpOk s) : Tot (fun n => fmtspec_Check n s) (· = spF s) := by
  unfold fmtspec_Check
  refine Tot.bindq (P := (· = !(!(okFill s.1) || (s.1 == 123 || s.1 == 125)))) ?_ fun j hj => ?_
  · have hno : ¬ ((0 ≤ s.1 ∧ s.1 < 55296) ∨ (57343 < s.1 ∧ s.1 ≤ 1114111)) → false = !(!(okFill s.1) || (s.1 == 123 || s.1 == 125)) := fun h => by
      rw [okFill, decide_eq_false h]; rfl
    refine Tot.ite (fun h => ?_) (fun h => Tot.ret (hno (by have := of_decide_eq_false h; omega)))
    have h := of_decide_eq_true h
    refine Tot.ite (fun h2 => ?_) (fun h2 => Tot.ret (hno (by have := of_decide_eq_false h2; omega)))
    have h2 := of_decide_eq_true h2
    rw [i32_in h h2]
    refine Tot.bindq (P := (· = okFill s.1)) ?_ fun r hr => ?_
    · unfold utf8_ValidRune okFill
      refine Tot.ite (fun h => Tot.ret ?_) (fun h => Tot.ite (fun h2 => Tot.ret ?_) (fun h2 => Tot.ret ?_))
      · rw [Bool.and_eq_true, decide_eq_true_eq, decide_eq_true_eq] at h
        exact (decide_eq_true (.inl h)).symm
      · rw [Bool.and_eq_true, decide_eq_true_eq, decide_eq_true_eq] at h2
        exact (decide_eq_true (.inr h2)).symm
      · rw [Bool.and_eq_false_iff, decide_eq_false_iff_not, decide_eq_false_iff_not] at h h2
        exact (decide_eq_false (by omega)).symm
    subst hr
    refine Tot.ite (fun h => ?_) (fun h => Tot.ret (by rw [h]; rfl))
    rw [h]
    refine Tot.ite (fun h3 => Tot.ret ?_) (fun h3 => Tot.ret ?_)
    · have h3 : (s.1 == 123) = false := by simpa using h3
      rw [h3]; simp [bne]
    · have h3 : (s.1 == 123) = true := by simpa using h3
      rw [h3]; rfl
  subst hj
  refine Tot.bindq (P := (· = ((!(okFill s.1) || (s.1 == 123 || s.1 == 125)) || (s.1 != 0 && s.2.1 == 0)))) ?_ fun j hj => ?_
  · rw [Bool.not_not]
    refine Tot.ite (fun h => Tot.ret (by rw [h]; rfl)) (fun h => ?_)
    rw [h, Bool.false_or]
    exact Tot.ite (fun h => Tot.ret (by rw [h]; rfl)) (fun h => Tot.ret (by rw [h]; rfl))
  refine Tot.bindq (P := (· = badS s)) ?_ fun j2 hj2 => ?_
  · subst hj
    have key := chk_step AL_ok hs.al (chk_step SG_ok hs.sg (chk_step GR_ok hs.gr (chk_step TY_ok hs.ty (prec_last s.2.2.2.2.2.2.2.1 s.2.2.2.2.2.2.2.2.1))))
    have e : badS s = (((!(okFill s.1) || (s.1 == 123 || s.1 == 125)) || (s.1 != 0 && s.2.1 == 0)) || (offS AL s.2.1 || (offS SG s.2.2.1 || (offS GR s.2.2.2.2.2.2.1 || (offS TY s.2.2.2.2.2.2.2.2.2 || (!s.2.2.2.2.2.2.2.1 && s.2.2.2.2.2.2.2.2.1 != 0)))))) := by
      unfold badS; simp only [Bool.or_assoc]
    rw [e]
    refine Tot.ite (fun h => Tot.ret (by rw [h]; rfl)) (fun h => ?_)
    rw [h, Bool.false_or]
    exact key
  subst hj2
  refine Tot.ite (fun h => ?_) (fun h => ?_)
  · rw [spF_bad h]; exact Tot.some_bind (Tot.ret rfl)
  refine Tot.bindq (out_tot s) fun j hj => ?_
  subst hj
  refine Tot.ite (fun h2 => ?_) (fun h2 => ?_)
  · rw [spF_out h h2]; exact Tot.some_bind (Tot.ret rfl)
  · rw [spF_ok h h2]; exact Tot.ret rfl
theorem SpecFault_tot {s : Sp} (hs : SpOk s) : Tot (fun n => ref4_SpecFault n s) (· = spF s) := by
  unfold ref4_SpecFault
  refine Tot.bindq (P := (· = ((!(okFill s.1) || (s.1 == 123 || s.1 == 125)) || (s.1 != 0 && s.2.1 == 0)))) ?_ fun j hj => ?_
  · refine Tot.bindq (P := (· = okFill s.1)) ?_ fun r hr => ?_
    · unfold ref4_Scalar okFill
      refine Tot.ret ?_
      by_cases h : s.1 ≥ 0
      · have h' : decide (s.1 ≥ 0) = true := decide_eq_true h
        simp only [h', if_true]
        rw [Bool.eq_iff_iff, decide_eq_true_eq, Bool.or_eq_true, Bool.and_eq_true, decide_eq_true_eq, decide_eq_true_eq, decide_eq_true_eq]; omega
      · have h' : decide (s.1 ≥ 0) = false := decide_eq_false h
        simp only [h', Bool.false_eq_true, if_false]
        rw [Bool.eq_iff_iff, decide_eq_true_eq, Bool.and_eq_true, decide_eq_true_eq, decide_eq_true_eq]; omega
    subst hr
    refine Tot.ite (fun h => Tot.ret (by rw [h]; rfl)) (fun h => ?_)
    rw [h, Bool.false_or]
    refine Tot.ite (fun h => Tot.ret (by rw [h]; rfl)) (fun h => ?_)
    rw [h, Bool.false_or]
    refine Tot.ite (fun h => Tot.ret (by rw [h]; rfl)) (fun h => ?_)
    rw [h, Bool.false_or]
    exact Tot.ite (fun h => Tot.ret (by rw [h]; rfl)) (fun h => Tot.ret (by rw [h]; rfl))
  subst hj
  have e : badS s = ((((!(okFill s.1) || (s.1 == 123 || s.1 == 125)) || (s.1 != 0 && s.2.1 == 0)) || (offS AL s.2.1 || offS SG s.2.2.1)) || (offS GR s.2.2.2.2.2.2.1 || (offS TY s.2.2.2.2.2.2.2.2.2 || (!s.2.2.2.2.2.2.2.1 && s.2.2.2.2.2.2.2.2.1 != 0)))) := rfl
  refine Tot.bindq (P := (· = (((!(okFill s.1) || (s.1 == 123 || s.1 == 125)) || (s.1 != 0 && s.2.1 == 0)) || (offS AL s.2.1 || offS SG s.2.2.1)))) ?_ fun j hj => ?_
  · refine Tot.ite (fun h => Tot.ret (by rw [h]; rfl)) (fun h => ?_)
    rw [h, Bool.false_or]
    exact ref_step AL_ok hs.al (ref_last SG_ok hs.sg) (ref_last SG_ok hs.sg)
  refine Tot.bindq (P := (· = badS s)) ?_ fun j2 hj2 => ?_
  · rw [e, ← hj]
    refine Tot.ite (fun h => Tot.ret (by rw [h]; rfl)) (fun h => ?_)
    rw [h, Bool.false_or]
    exact ref_step GR_ok hs.gr (ref_step TY_ok hs.ty (prec_last _ _) (prec_last _ _)) (ref_step TY_ok hs.ty (prec_last _ _) (prec_last _ _))
  subst hj2
  refine Tot.ite (fun h => ?_) (fun h => ?_)
  · rw [spF_bad h]; exact Tot.some_bind (Tot.ret rfl)
  refine Tot.bindq (out_tot s) fun j hj => ?_
  subst hj
  refine Tot.ite (fun h2 => ?_) (fun h2 => ?_)
  · rw [spF_out h h2]; exact Tot.some_bind (Tot.ret rfl)
  · rw [spF_ok h h2]; exact Tot.ret rfl
end Go.Gv.P

