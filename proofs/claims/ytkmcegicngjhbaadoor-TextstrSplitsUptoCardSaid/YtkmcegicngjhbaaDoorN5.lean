import Derived.Test.YtkmcegicngjhbaaDoorN1
import Derived.Test.YtkmcegicngjhbaaDoorGo
set_option linter.all false
namespace Go.Gv.R
open Go Go.Gv Go.Gv.D Go.Lib

end Go.Gv.R
namespace Go.Gv.R
open Go Go.Gv Go.Gv.D Go.Lib

/-! the reference's dividing -/
theorem FirstOf_tot {l : List Nat} {most : Int} : Tot (fun n => ref4_FirstOf n (ints l) most) (· = ints (if most < 0 then l else l.take most.toNat)) := by
  unfold ref4_FirstOf
  rw [ints_len]
  refine Tot.ite (fun h => ?_) fun h => Tot.ret ?_
  · rw [Bool.and_eq_true] at h
    have h1 := of_decide_eq_true h.1; have h2 := of_decide_eq_true h.2
    refine Tot.bind0 (sub_ok (by omega) (by omega) (by rw [ints_len]; omega)) (Tot.ret ?_)
    rw [if_neg (by omega)]
    unfold ints; simp
  · by_cases g : most < 0
    · rw [if_pos g]
    · rw [if_neg g, List.take_of_length_le]
      rcases Nat.lt_or_ge most.toNat l.length with h3 | h3
      · rw [decide_eq_true (by omega), decide_eq_true (by omega)] at h; cases h
      · exact h3
theorem Divide_tot {p q : List Nat} {k : Nat} (hp : ∀ r ∈ p, Scal r) (hl : p.length ≤ 1000000) (hql : q.length ≤ 1000000) (hne : q ≠ []) : Tot (fun n => ref4_Divide n (ints p) (ints (cutsK q k p 0)) (q.length : Int)) (· = strs (partsK q k p)) := by
  unfold ref4_Divide
  simp only [ints_len]
  have hcl := (cuts_le hne k p 0).2
  refine Tot.bindq (P := fun j => ∃ (o : Nat) (pre : List (List Nat)), j = (strs pre, (o : Int)) ∧ o ≤ p.length ∧ pre.length ≤ p.length ∧ partsK q k p = pre ++ [p.drop o]) ?_ fun j hj => ?_
  · refine Tot.loop (fun st => ∃ (i o : Nat) (pre : List (List Nat)) (cs : List Nat), st = (strs pre, (o : Int), (i : Int)) ∧ pre.length = i ∧ cs.length = i ∧ i ≤ k ∧ o ≤ p.length ∧ partsK q k p = pre ++ partsK q (k - i) (p.drop o) ∧ cutsK q k p 0 = cs ++ cutsK q (k - i) (p.drop o) o) (fun st => (cutsK q k p 0).length - st.2.2.toNat) ⟨0, 0, [], [], rfl, rfl, rfl, Nat.zero_le _, Nat.zero_le _, rfl, rfl⟩ fun st ⟨i, o, pre, cs, e, h1, h2, h3, h4, h5, h6⟩ => ?_
    subst e
    dsimp only
    refine Tot.ite (fun g => ?_) fun g => ?_
    · have g : i < (cutsK q k p 0).length := by have := of_decide_eq_true g; omega
      have hk : 0 < k - i := by
        rcases Nat.eq_zero_or_pos (k - i) with h | h
        · rw [h6, h, List.length_append, h2] at g
          have : (cutsK q 0 (p.drop o) o).length = 0 := rfl
          omega
        · exact h
      obtain ⟨m, hm⟩ : ∃ m, k - i = m + 1 := ⟨k - i - 1, by omega⟩
      cases hf : firstOcc q (p.drop o) with
      | none => rw [h6, cutsK_none hf, List.length_append, h2] at g; simp at g
      | some j =>
        obtain ⟨o1, o2⟩ := occ_parts hf
        rw [List.length_drop] at o2
        have hget : (cutsK q k p 0)[i]? = some (o + j) := by
          rw [h6, hm, cutsK_some hf, List.getElem?_append_right (by omega), h2, Nat.sub_self]; rfl
        have hidx : idx (ints (cutsK q k p 0)) (i : Int) = some ((o + j : Nat) : Int) := by
          rw [ints_get g]
          rw [List.getElem?_eq_getElem g] at hget
          rw [Option.some.inj hget]
        have hsub : sub (ints p) (o : Int) ((o + j : Nat) : Int) = some (ints ((p.drop o).take j)) := by
          rw [sub_ok (by omega) (by omega) (by rw [ints_len]; omega)]
          unfold ints
          rw [Int.toNat_natCast, Int.toNat_natCast, ← List.map_take, ← List.map_drop, List.drop_take, show o + j - o = j by omega]
        refine Tot.bind0 hidx (Tot.bind0 hsub (Tot.bindq (String_tot (scal_take (scal_drop hp o) j) (by rw [List.length_take, List.length_drop]; omega)) fun x hx => ?_))
        subst hx
        have hsl : (strs pre).length = i := by unfold strs; rw [List.length_map, h1]
        refine Tot.bind0 (app_ok (by rw [hsl]; simp; omega)) (Tot.bind0 hidx (Tot.ret ⟨⟨i + 1, o + j + q.length, pre ++ [(p.drop o).take j], cs ++ [o + j], ?_, by simp [h1], by simp [h2], by omega, by omega, ?_, ?_⟩, ?_⟩))
        · rw [iw (x := ((o + j : Nat) : Int) + (q.length : Int)) (n := o + j + q.length) (by omega) (by omega), iw (n := i + 1) (by omega) (by omega)]
          unfold strs; simp
        · rw [h5, hm, partsK_some hf, show k - (i + 1) = m by omega, List.drop_drop, show o + (j + q.length) = o + j + q.length by omega]; simp
        · rw [h6, hm, cutsK_some hf, show k - (i + 1) = m by omega, List.drop_drop, show o + (j + q.length) = o + j + q.length by omega]; simp
        · dsimp only; rw [iw (n := i + 1) (by omega) (by omega)]; omega
    · have g : ¬ i < (cutsK q k p 0).length := by have := of_decide_eq_false g; omega
      refine Tot.ret ⟨o, pre, rfl, h4, ?_, ?_⟩
      · have := parts_len (q := q) k p 0
        rw [h5, List.length_append] at this
        have h8 := List.length_pos_iff.2 (parts_ne q (k - i) (p.drop o))
        omega
      · rw [h5]
        refine congrArg (pre ++ ·) ?_
        cases hki : k - i with
        | zero => rfl
        | succ m =>
          cases hf : firstOcc q (p.drop o) with
          | none => exact partsK_none hf
          | some j =>
            rw [h6, hki, cutsK_some hf, List.length_append, List.length_cons] at g
            omega
  · obtain ⟨o, pre, e, ho, hpre, hall⟩ := hj
    subst e
    have hsub : sub (ints p) (o : Int) ((p.length : Nat) : Int) = some (ints (p.drop o)) := by
      rw [sub_ok (by omega) (by omega) (by rw [ints_len]; omega)]
      unfold ints
      rw [Int.toNat_natCast, Int.toNat_natCast, ← List.map_take, ← List.map_drop, List.take_of_length_le (Nat.le_refl _)]
    have hsl : (strs pre).length = pre.length := by unfold strs; rw [List.length_map]
    refine Tot.bind0 hsub (Tot.bindq (String_tot (scal_drop hp o) (by rw [List.length_drop]; omega)) fun x hx => ?_)
    subst hx
    refine Tot.bind0 (app_ok (by rw [hsl]; simp; omega)) (Tot.ret ?_)
    rw [hall]; unfold strs; simp

/-! repeating -/
end Go.Gv.R
namespace Go.Gv.R
open Go Go.Gv Go.Gv.D Go.Lib

end Go.Gv.R

